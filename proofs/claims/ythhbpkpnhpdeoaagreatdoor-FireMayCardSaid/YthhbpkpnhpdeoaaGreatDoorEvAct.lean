/-
  A part of the proof of FireMay: EvAct. No condition.
-/
import Derived.Test.YthhbpkpnhpdeoaaGreatDoorEvOps
namespace Go.Ev
open Go

section
variable {P : Program} {E : Env} {ρ : Rn} {lk : Lk} {w : World} {tm : Tm} {a : Act}

theorem acO_ok {x : Option Value} {r : Result Next} (h : ∀ v, x = some v → ∃ v', V1 ρ v v' ∧ r = .ok (.value v') w) : AcOK ρ lk w (acO x) r := by
  cases x with
  | none => trivial
  | some v => exact h v rfl

theorem ok_move (hz : ∃ q, ρ 0 = some (0, 0, q)) (hTm : TR ρ tm a.tmps) (x : Operand) : AcOK ρ lk w (aMove x E tm lk) (.ok (.value (a.eval x)) w) :=
  acO_ok fun _ hv => ⟨_, ev_sound hz hTm hv, rfl⟩

theorem ok_pick (hz : ∃ q, ρ 0 = some (0, 0, q)) (hTm : TR ρ tm a.tmps) (c x y : Operand) (o : Oper) (ho : o.op = .pick c x y) :
    AcOK ρ lk w (aPick c x y E tm lk) ((execOp a.eval o).run P w) := by
  unfold aPick
  cases hc : ev tm c with
  | none => trivial
  | some b =>
    have h := ev_sound hz hTm hc
    cases b with
    | bool t =>
      generalize hce : a.eval c = ce at h
      cases h
      cases t
      · exact acO_ok fun _ hv => ⟨_, ev_sound hz hTm hv, by simp [execOp, ho, hce, asBool]⟩
      · exact acO_ok fun _ hv => ⟨_, ev_sound hz hTm hv, by simp [execOp, ho, hce, asBool]⟩
    | _ => trivial

theorem ok_new_cells {v' : Value} {st : Nat} {cs : List Value} {cs' : Array Value} {el : TypeId} {k : Nk} (h : VR ρ cs cs'.toList) (hk : NkRel k w.heap.size (cs'.size, st) v') :
    AcOK ρ lk w (.new (.cells st cs) k) (.ok (.value v') { w with heap := w.heap.push (.cells cs' el) }) := by
  refine ⟨v', .cells cs' el, _, (cs'.size, st), rfl, rfl, hk, ?_, Kept.push rfl ⟨rfl, rfl⟩ rfl⟩
  refine ⟨?_, rfl, cs', el, (0, 0), by simp, ?_, by simp⟩
  · intro arr e fr hc i hi
    simp at hc
    obtain ⟨_, _, hfr⟩ := hc
    subst hfr
    simp [World.frozen?]
  · rw [List.drop_zero, h.length, List.take_length]; exact h

theorem ok_alloc (hT : ∀ t ti, E.T.get t = some ti → TIok P t ti) (t : TypeId) (o : Oper) (ho : o.op = .alloc t) :
    AcOK ρ lk w (aAlloc t E tm lk) ((execOp a.eval o).run P w) := by
  unfold aAlloc zeroC
  cases ht : E.T.get t with
  | none => trivial
  | some ti =>
    have ok := hT t ti ht
    have hrun : (execOp a.eval o).run P w = .ok (.value (.pointer (some ⟨w.heap.size, 0, none⟩))) { w with heap := w.heap.push (.cells ti.zero.cells t) } := by
      simp [execOp, ho, Instr.alloc, ok.zeroValue, newVar, newRow]
    rw [hrun]
    exact ok_new_cells (cellsOf_rel (ok.zero ρ)) rfl

theorem ok_box (hz : ∃ q, ρ 0 = some (0, 0, q)) (hTm : TR ρ tm a.tmps) (t : TypeId) (x : Operand) (o : Oper) (ho : o.op = .box t x) :
    AcOK ρ lk w (aBox t x E tm lk) ((execOp a.eval o).run P w) := by
  unfold aBox
  cases hx : ev tm x with
  | none => trivial
  | some v =>
    have hrun : (execOp a.eval o).run P w = .ok (.value (.pointer (some ⟨w.heap.size, 0, none⟩))) { w with heap := w.heap.push (.cells (a.eval x).cells t) } := by
      simp [execOp, ho, Instr.box, newVar, newRow]
    rw [hrun]
    exact ok_new_cells (cellsOf_rel (ev_sound hz hTm hx)) rfl

theorem cells_size {v v' : Value} (h : V1 ρ v v') : v'.cells.size = (cellsOf v).length := by
  rw [(cellsOf_rel h).length]; simp

theorem splice_rel {cs cs' new new' r : List Value} {n : Nat} (h : VR ρ cs cs') (hn : VR ρ new new') (hs : splice n cs new = some r) :
    VR ρ r (if new = [] then cs' else cs'.take n ++ new' ++ cs'.drop (n + new'.length)) ∧ (new ≠ [] → n + new.length ≤ cs.length) := by
  rcases splice_eq hs with ⟨e, hr⟩ | ⟨hl, hr⟩
  · subst hr; subst e; simpa using h
  · subst hr
    by_cases he : new = []
    · subst he; simp; exact h
    · rw [if_neg he]
      refine ⟨?_, fun _ => hl⟩
      rw [← hn.length]
      exact ((h.take n).append hn).append (h.drop _)

theorem zipIdx_fold (off : Nat) : ∀ (vs : List Value) (k : Nat) (cs : Array Value), off + k + vs.length ≤ cs.size →
    ((vs.zipIdx k).foldl (fun cs (c, j) => cs.setIfInBounds (off + j) c) cs).toList = cs.toList.take (off + k) ++ vs ++ cs.toList.drop (off + k + vs.length)
  | [], k, cs, _ => by simp
  | v :: vs, k, cs, h => by
    simp only [List.zipIdx_cons, List.foldl_cons]
    rw [zipIdx_fold off vs (k + 1) _ (by simp at h ⊢; omega)]
    have hi : off + k < cs.size := by simp at h; omega
    apply List.ext_getElem?
    intro j
    simp only [Array.toList_setIfInBounds, List.getElem?_append, List.getElem?_take, List.getElem?_drop, List.getElem?_set, List.length_append, List.length_take, List.length_set, List.length_cons, Array.length_toList]
    have e1 : min (off + (k + 1)) cs.size = off + k + 1 := by omega
    have e2 : min (off + k) cs.size = off + k := by omega
    rw [e1, e2]
    by_cases hk : j < off + k
    · simp only [show j < off + k + 1 + vs.length by omega, show j < off + k + 1 by omega, show j < off + (k + 1) by omega, show ¬ off + k = j by omega, show j < off + k + (vs.length + 1) by omega, hk, if_true, if_false]
    · by_cases hk2 : j = off + k
      · subst hk2
        simp [show off + k < off + (k + 1) by omega, show off + k < off + k + 1 + vs.length by omega, hi, show off + k < off + k + (vs.length + 1) by omega]
      · by_cases hk3 : j < off + k + 1 + vs.length
        · simp only [hk3, if_true, show j < off + k + (vs.length + 1) by omega, show ¬ j < off + k + 1 by omega, hk, if_false]
          rw [show j - (off + k) = (j - (off + k + 1)) + 1 by omega, List.getElem?_cons_succ]
        · simp only [hk3, if_false, show ¬ j < off + k + (vs.length + 1) by omega]
          rw [if_neg (by omega)]
          congr 1
          omega

theorem fill_mono {p q : Nat → Option (Nat × Nat)} (h : ∀ i x, p i = some x → q i = some x) : ∀ {vs : List (Nat × Value)} {cs r : List Value}, fillAll p cs vs = some r → fillAll q cs vs = some r
  | [], _, _, hr => hr
  | (i, v) :: vs, cs, r, hr => by
    simp only [fillAll] at hr ⊢
    split at hr
    · cases hr
    · rename_i off size hp
      rw [h i _ hp]
      simp only []
      split at hr
      · cases hr
      · split at hr
        · exact fill_mono h hr
        · cases hr

theorem fill_sound {place : Nat → Option (Nat × Nat)} : ∀ {vs vs' : List (Nat × Value)} {cs r : List Value} {cs' : Array Value}, PR ρ vs vs' → VR ρ cs cs'.toList →
    fillAll place cs vs = some r → ∃ r', Instr.fill place cs' vs' = some r' ∧ VR ρ r r'.toList
  | [], _, cs, r, cs', hp, hc, h => by
    cases hp; simp [fillAll] at h; subst h; exact ⟨cs', by simp [Instr.fill], hc⟩
  | (i, v) :: vs, _, cs, r, cs', hp, hc, h => by
    cases hp with
    | cons _ hv hp' =>
      rename_i v' vs'
      simp only [fillAll] at h
      split at h
      · cases h
      · rename_i off size hpl
        split at h
        · cases h
        · rename_i hsz
          rw [Bool.and_eq_true] at hsz
          obtain ⟨hsz, h0⟩ := hsz
          have hsz := Nat.eq_of_beq_eq_true hsz
          have h0 : 0 < size := Nat.blt_eq.mp h0
          split at h
          · rename_i cells hsp
            obtain ⟨h1, h2⟩ := splice_rel hc (cellsOf_rel hv) hsp
            have hcs := cells_size hv
            have he : cellsOf v ≠ [] := fun e => by rw [e] at hsz; simp at hsz; omega
            rw [if_neg he] at h1
            have h2 := h2 he
            have hlen := hc.length
            simp only [Array.length_toList] at hlen
            have hfold := zipIdx_fold off v'.cells.toList 0 cs' (by simp; omega)
            obtain ⟨r', h3, h4⟩ := fill_sound (cs' := v'.cells.zipIdx.foldl (fun cs (c, j) => cs.setIfInBounds (off + j) c) cs') hp' (by
              rw [← Array.foldl_toList]
              rw [Array.toList_zipIdx, hfold]
              simpa using h1) h
            refine ⟨r', ?_, h4⟩
            simp only [Instr.fill, hpl]
            rw [if_neg (by simp; omega)]
            exact h3
          · cases h

theorem run_places (fs : List Field) (h : ∀ f ∈ fs, ∃ i, P.info? f.type = some i) (w : World) :
    (fs.mapM fun f => do pure (f.offset, ← Go.sizeOf f.type) : Sem _).run P w = .ok (fs.map fun f => (f.offset, P.cellsOf f.type)) w := by
  induction fs with
  | nil => simp
  | cons f fs ih =>
    obtain ⟨i, hi⟩ := h f (by simp)
    have ih := ih (fun g hg => h g (by simp [hg]))
    have hs : (Go.sizeOf f.type).run P w = .ok i.size w := by simp [Go.sizeOf, Go.typeInfo, hi]
    have hc : P.cellsOf f.type = i.size := by simp [Program.cellsOf, hi]
    simp only [List.mapM_cons, Sem.run_bind, hs, Result.andThen_ok, ih, Sem.run_pure, List.map_cons, hc]

theorem ok_build (hT : ∀ t ti, E.T.get t = some ti → TIok P t ti) (hz : ∃ q, ρ 0 = some (0, 0, q)) (hTm : TR ρ tm a.tmps) (t : TypeId) (ps : Array (Nat × Operand)) (o : Oper) (ho : o.op = .build t ps) :
    AcOK ρ lk w (aBuild t ps E tm lk) ((execOp a.eval o).run P w) := by
  unfold aBuild
  split
  · rename_i vs ti hvs hti
    have ok := hT t ti hti
    have hp := evParts_sound hz hTm hvs
    have hz0 : VR ρ (cellsOf ti.zero) ti.zero.cells.toList := cellsOf_rel (ok.zero ρ)
    have hparts : (ps.map fun (i, x) => (i, a.eval x)).toList = ps.toList.map fun (i, x) => (i, a.eval x) := by simp
    have hrun : (execOp a.eval o).run P w = ((Instr.build t (ps.map fun (i, x) => (i, a.eval x))).run P w).andThen fun v w' => .ok (.value v) w' := by
      simp only [execOp, ho, Sem.run_bind, Sem.run_pure]
    rw [hrun]
    unfold buildV
    split
    · rename_i fs hd
      split
      · rename_i l hl
        obtain ⟨hof, hfi⟩ := ok.offs fs hd
        have hpl : ∀ i x, fieldPlace E ti i = some x → (fs.map fun f => (f.offset, P.cellsOf f.type))[i]? = some x := by
          intro i x hx
          unfold fieldPlace at hx
          split at hx
          · rename_i off tf hn
            split at hx
            · rename_i te hte
              cases hx
              rw [nth_eq, hof] at hn
              simp only [List.getElem?_map, Array.getElem?_toList, Array.getElem?_map] at hn ⊢
              cases hf : fs[i]? with
              | none => rw [hf] at hn; simp at hn
              | some f =>
                rw [hf] at hn
                simp at hn
                obtain ⟨rfl, rfl⟩ := hn
                obtain ⟨j, hj, hs, _⟩ := (hT _ te hte).info
                simp [Program.cellsOf, hj, hs]
            · cases hx
          · cases hx
        obtain ⟨r', h1, h2⟩ := fill_sound (place := ((fs.map fun f => (f.offset, P.cellsOf f.type))[·]?)) hp hz0 (fill_mono hpl hl)
        refine ⟨.agg r', .agg h2 .nil, ?_⟩
        have hm : (fs.mapM fun f => do pure (f.offset, ← Go.sizeOf f.type) : Sem _).run P w = .ok (fs.map fun f => (f.offset, P.cellsOf f.type)) w := by
          rw [Array.mapM_eq_mapM_toList]
          simp only [Sem.run_map, run_places fs.toList hfi w, Result.andThen_ok]
          rw [← Array.toList_map]
        simp only [Instr.build, Sem.run_bind, ok.zeroValue, Result.andThen_ok, ok.underlying, hd]
        rw [hm]
        simp only [Result.andThen_ok, hparts, h1, Sem.run_pure]
      · trivial
    · rename_i n e hd
      split
      · rename_i te hte
        have oke := hT e te hte
        split
        · rename_i l hl
          obtain ⟨r', h1, h2⟩ := fill_sound hp hz0 hl
          refine ⟨.agg r', .agg h2 .nil, ?_⟩
          simp only [Instr.build, Sem.run_bind, ok.zeroValue, Result.andThen_ok, ok.underlying, hd, oke.sizeOf, hparts, h1, Sem.run_pure]
        · trivial
      · trivial
    · trivial
  · trivial
end
end Go.Ev
