/-
  A part of the proof of FireMay: EvAct9. No condition.
-/
import Derived.Test.YthhbpkpnhpdeoaaGreatDoorEvAct8
namespace Go.Ev
open Go

section
variable {P : Program} {E : Env} {ρ : Rn} {lk : Lk} {w : World} {tm : Tm} {a : Act}

theorem upd_ok {d : TypeDesc} {k k' v v' : Value} (hk : V1 ρ k k') (hv : V1 ρ v v') : ∀ {es es' : List (Value × Value)} {ents : List MapEntry} {i : Nat}, upd d k v es = some es' →
    VR ρ (es.map (·.1)) (ents.map (·.key)) → VR ρ (es.map (·.2)) (ents.map (·.val)) →
    (Instr.findNow d k' ents i = some none ∧ VR ρ (es'.map (·.1)) (ents.map (·.key) ++ [k']) ∧ VR ρ (es'.map (·.2)) (ents.map (·.val) ++ [v'])) ∨
    (∃ j e, ents[j]? = some e ∧ Instr.findNow d k' ents i = some (some (i + j, e.val)) ∧ (∀ n, Instr.sameBits (n + 1) e.key k' = true) ∧
      VR ρ (es'.map (·.1)) ((ents.map (·.key)).set j k') ∧ VR ρ (es'.map (·.2)) ((ents.map (·.val)).set j v'))
  | [], es', ents, i, h, h1, _ => by
    simp [upd] at h; subst h
    have := h1.nil_l
    have : ents = [] := by simpa using this
    subst this
    exact .inl ⟨by simp [Instr.findNow], by simpa using hk, by simpa using hv⟩
  | (a, u) :: es, es', ents, i, h, h1, h2 => by
    cases ents with
    | nil => have := h1.length; simp at this
    | cons e ents =>
      obtain ⟨_, _, e1, hka, ht1⟩ := h1.uncons
      obtain ⟨_, _, e2, hva, ht2⟩ := h2.uncons
      simp only [List.map_cons, List.cons.injEq] at e1 e2
      obtain ⟨rfl, rfl⟩ := e1
      obtain ⟨rfl, rfl⟩ := e2
      simp only [upd] at h
      split at h
      · rename_i hq
        cases h
        obtain ⟨g1, g2⟩ := keyEq_ok hq hk hka
        exact .inr ⟨0, e, by simp, by simp [Instr.findNow, g1], g2 rfl, by simpa using VR.cons hk ht1, by simpa using VR.cons hv ht2⟩
      · rename_i hq
        have g1 := (keyEq_ok hq hk hka).1
        split at h
        · rename_i r hr
          cases h
          rcases upd_ok hk hv (i := i + 1) hr ht1 ht2 with ⟨g3, g4, g5⟩ | ⟨j, e', g3, g4, g5, g6, g7⟩
          · exact .inl ⟨by simp [Instr.findNow, g1, g3], by simpa using VR.cons hka g4, by simpa using VR.cons hva g5⟩
          · refine .inr ⟨j + 1, e', by simpa using g3, ?_, g5, by simpa using VR.cons hka g6, by simpa using VR.cons hva g7⟩
            simp only [Instr.findNow, g1, g4]
            congr 3; omega
        · cases h
      · cases h

theorem ok_mapUpd (hT : ∀ t ti, E.T.get t = some ti → TIok P t ti) (H : HRel ρ lk w) (hTm : TR ρ tm a.tmps) (t : TypeId) (x y z : Operand) (o : Oper) (ho : o.op = .mapUpdate t x y z ∨ o.op = .insert t x y z) :
    AcOK ρ lk w (aMapUpd t x y z E tm lk) ((execOp a.eval o).run P w) := by
  unfold aMapUpd
  split
  · rename_i r k v hx hy hzz
    have hm := ev_sound H.zero hTm hx
    have hk := ev_sound H.zero hTm hy
    have hv := ev_sound H.zero hTm hzz
    split
    · rename_i d te hty
      obtain ⟨kt, et, hu, huk, oke⟩ := mapTy_ok hT hty
      unfold putMap
      split
      · rename_i es hb
        split
        · rename_i es' hp hup
          obtain ⟨c, s, q, hρ, hblk⟩ := H.blk _ _ hb
          generalize hxe : a.eval x = xe at hm
          cases hm with
          | map _ c2 q2 hρ2 _ =>
            rw [hρ] at hρ2; cases hρ2
            obtain ⟨_, ents, cl, hw, h1, h2⟩ := hblk
            have hget : (getObj c).run P w = .ok (.map ents cl) w := by simp [getObj, Sem.run, hw]
            have hset : ∀ ob, (setObj c ob).run P w = .ok () { w with heap := w.heap.setIfInBounds c ob } := by
              intro ob; simp [setObj, Sem.run, hw]
            have hc : c < w.heap.size := H.low _ _ _ hρ
            have fin : ∀ (ents' : Array MapEntry) (cl' : Nat), (execOp a.eval o).run P w = .ok .skip { w with heap := w.heap.setIfInBounds c (.map ents' cl') } →
                VR ρ (es'.map (·.1)) (ents'.toList.map (·.key)) → VR ρ (es'.map (·.2)) (ents'.toList.map (·.val)) →
                AcOK ρ lk w (.put r (.map es') undefV) ((execOp a.eval o).run P w) := by
              intro ents' cl' hrun g1 g2
              refine ⟨undef, _, c, 0, _, _, hb, hρ, .inr ⟨hrun, rfl⟩, V1.undef, by simp, ⟨rfl, ents', cl', by simp [hc], g1, g2⟩, ?_⟩
              have hoth : ∀ c', c' ≠ c → (w.heap.setIfInBounds c (.map ents' cl'))[c']? = w.heap[c']? := fun c' hne => by
                simp [Array.getElem?_setIfInBounds_ne (Ne.symm hne)]
              refine ⟨hoth, rfl, ⟨rfl, rfl⟩, fun c2 a2 t2 f2 h2 => ⟨a2, rfl, (hoth c2 fun e => ?_).trans h2⟩⟩
              rw [e, hw] at h2; cases h2
            rcases upd_ok hk hv (i := 0) hup h1 h2 with ⟨g3, g4, g5⟩ | ⟨j, e, g3, g4, g5, g6, g7⟩
            · refine fin (ents.push { key := a.eval y, val := a.eval z, born := cl }) (cl + 1) ?_ (by simpa using g4) (by simpa using g5)
              rcases ho with ho | ho <;>
              simp only [execOp, ho, Sem.run_bind, Instr.mapUpdate, run_underlying hu, Result.andThen_ok, hxe, hget, checkKey_plain huk hp, Instr.findKey, run_underlying huk, g3, Sem.run_pure, hset]
            · have hk0 : (Instr.keyThatStays e.key (a.eval y)).run P w = .ok (a.eval y) w := by
                simp only [Instr.keyThatStays, g5 9999, if_true, Sem.run_pure]
              have hj : ents[j]? = some e := by simpa using g3
              have hjl : j < ents.size := by
                rcases Nat.lt_or_ge j ents.size with h | h
                · exact h
                · rw [Array.getElem?_eq_none h] at hj; cases hj
              refine fin (ents.modify j fun e => { e with key := a.eval y, val := a.eval z }) cl ?_ ?_ ?_
              · rcases ho with ho | ho <;>
                simp only [execOp, ho, Sem.run_bind, Instr.mapUpdate, run_underlying hu, Result.andThen_ok, hxe, hget, checkKey_plain huk hp, Instr.findKey, run_underlying huk, g4, Sem.run_pure, Nat.zero_add, hj, Option.map_some, Option.getD_some, hk0, hset]
              · refine (congrArg (VR ρ _) ?_).mp g6
                apply List.ext_getElem?
                intro i
                simp only [Array.toList_modify, List.getElem?_map, List.getElem?_modify, List.getElem?_set, List.length_map, Array.length_toList]
                by_cases hij : j = i
                · subst hij; simp [hjl]
                · simp [hij]
              · refine (congrArg (VR ρ _) ?_).mp g7
                apply List.ext_getElem?
                intro i
                simp only [Array.toList_modify, List.getElem?_map, List.getElem?_modify, List.getElem?_set, List.length_map, Array.length_toList]
                by_cases hij : j = i
                · subst hij; simp [hjl]
                · simp [hij]
        · trivial
      · trivial
    · trivial
  · trivial
end
end Go.Ev
