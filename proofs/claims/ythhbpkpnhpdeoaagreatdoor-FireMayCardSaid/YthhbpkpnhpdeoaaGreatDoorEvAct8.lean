/-
  A part of the proof of FireMay: EvAct8. No condition.
-/
import Derived.Test.YthhbpkpnhpdeoaaGreatDoorEvAct7
namespace Go.Ev
open Go

section
variable {P : Program} {E : Env} {ρ : Rn} {lk : Lk} {w : World} {tm : Tm} {a : Act}

theorem fieldOf_ok (hT : ∀ t ti, E.T.get t = some ti → TIok P t ti) {t f d tf : Nat} (h : fieldOf E t f = some (d, tf)) :
    ∃ fs fd te, P.underlying t = some (.struct fs) ∧ fs[f]? = some fd ∧ fd.offset = d ∧ fd.type = tf ∧ TIok P tf te ∧ te.size ≠ 0 := by
  unfold fieldOf at h
  split at h
  · rename_i ti hti
    have ok := hT t ti hti
    split at h
    · rename_i fs hd
      unfold fieldIn at h
      split at h
      · rename_i d' tf' hn
        unfold fieldSz at h
        split at h
        · rename_i te hte
          split at h
          · cases h
          · rename_i n hs
            cases h
            rw [nth_eq, (ok.offs fs hd).1, List.getElem?_map, Array.getElem?_toList] at hn
            cases hf : fs[f]? with
            | none => rw [hf] at hn; simp at hn
            | some fd =>
              rw [hf] at hn
              simp at hn
              exact ⟨fs, fd, te, hd ▸ ok.und, hf, hn.1, hn.2, hT _ te hte, by omega⟩
        · cases h
      · cases h
    · cases h
  · cases h

theorem ok_fieldA (hT : ∀ t ti, E.T.get t = some ti → TIok P t ti) (hz : ∃ q, ρ 0 = some (0, 0, q)) (hTm : TR ρ tm a.tmps) (t : TypeId) (x : Operand) (f : Nat) (o : Oper) (ho : o.op = .fieldAddr t x f) :
    AcOK ρ lk w (aFieldA t x f E tm lk) ((execOp a.eval o).run P w) := by
  unfold aFieldA
  split
  · rename_i b off d tf hx hf
    obtain ⟨fs, fd, te, hu, hfd, rfl, rfl, ok, hsz⟩ := fieldOf_ok hT hf
    have hv := ev_sound hz hTm hx
    generalize hxe : a.eval x = xe at hv
    cases hv with
    | ptr _ _ c s q hr _ =>
      refine ⟨.pointer (some ⟨c, s + (off + fd.offset), none⟩), .ptr b _ c s q hr .nil, ?_⟩
      simp only [execOp, ho, Sem.run_bind, Instr.fieldAt, run_underlying hu, Result.andThen_ok, hfd, Instr.sureAddr, hxe, Sem.run_pure, Go.fieldPlace, ok.sizeOf, if_neg hsz, add_none, Nat.add_assoc]
  · trivial

theorem ok_field (hT : ∀ t ti, E.T.get t = some ti → TIok P t ti) (hz : ∃ q, ρ 0 = some (0, 0, q)) (hTm : TR ρ tm a.tmps) (t : TypeId) (x : Operand) (f : Nat) (o : Oper) (ho : o.op = .field t x f) :
    AcOK ρ lk w (aField t x f E tm lk) ((execOp a.eval o).run P w) := by
  unfold aField
  split
  · rename_i cs d tf hx hf
    obtain ⟨fs, fd, te, hu, hfd, rfl, rfl, ok, hsz⟩ := fieldOf_ok hT hf
    have hv := ev_sound hz hTm hx
    generalize hxe : a.eval x = xe at hv
    cases hv with
    | agg h1 _ =>
      refine acO_ok fun v hv => ?_
      obtain ⟨v', h2, h3⟩ := part_sound (P := P) hT hv h1 w
      refine ⟨v', h3, ?_⟩
      simp only [execOp, ho, Sem.run_bind, Instr.field, run_underlying hu, Result.andThen_ok, hfd, hxe, asAgg, Sem.run_pure, h2]
  · trivial

theorem ok_ixA (hT : ∀ t ti, E.T.get t = some ti → TIok P t ti) (hz : ∃ q, ρ 0 = some (0, 0, q)) (hTm : TR ρ tm a.tmps) (t : TypeId) (x ix : Operand) (o : Oper) (ho : o.op = .indexAddr t x ix) :
    AcOK ρ lk w (aIxA t x ix E tm lk) ((execOp a.eval o).run P w) := by
  unfold aIxA
  split
  · rename_i v i hx hi
    have hv := ev_sound hz hTm hx
    have hiv := ev_sound hz hTm hi
    refine acO_ok fun r hr => ?_
    unfold indexAddr at hr
    split at hr
    · rename_i k n ti hti
      have ok := hT t ti hti
      have hie := hiv.inv_int
      unfold ixAD at hr
      split at hr
      · rename_i e hd
        split at hr
        · rename_i b off len cap te hte
          have oke := hT e te hte
          split at hr
          · rename_i hlt
            have hlt := Nat.blt_eq.mp hlt
            cases hr
            generalize hxe : a.eval x = xe at hv
            cases hv with
            | sl _ _ _ _ c s k' q hrr _ _ _ =>
              refine ⟨.pointer (some ⟨c, s + (off + n * te.size), none⟩), .ptr b _ c s q hrr .nil, ?_⟩
              simp only [execOp, ho, Sem.run_bind, Instr.indexAt, hie, asIntOf, Sem.run_pure, Result.andThen_ok, ok.underlying, hd, hxe, ofNat_cast]
              rw [if_pos (by omega)]
              simp only [Sem.run_bind, oke.sizeOf, Result.andThen_ok, Sem.run_pure, add_none, Int.toNat_natCast, Nat.add_assoc]
            | slE => omega
          · cases hr
        · cases hr
      · rename_i n' e hd
        split at hr
        · rename_i b off te hte
          have oke := hT e te hte
          split at hr
          · rename_i hlt
            have hlt := Nat.blt_eq.mp hlt
            cases hr
            generalize hxe : a.eval x = xe at hv
            cases hv with
            | ptr _ _ c s q hrr _ =>
              refine ⟨.pointer (some ⟨c, s + (off + n * te.size), none⟩), .ptr b _ c s q hrr .nil, ?_⟩
              simp only [execOp, ho, Sem.run_bind, Instr.indexAt, hie, asIntOf, Sem.run_pure, Result.andThen_ok, ok.underlying, hd, hxe, ofNat_cast, Instr.sureAddr]
              rw [if_pos (by omega)]
              simp only [Sem.run_bind, oke.sizeOf, Result.andThen_ok, Sem.run_pure, add_none, Int.toNat_natCast, Nat.add_assoc]
          · cases hr
        · cases hr
      · cases hr
    · cases hr
  · trivial

theorem ok_ix (hT : ∀ t ti, E.T.get t = some ti → TIok P t ti) (hz : ∃ q, ρ 0 = some (0, 0, q)) (hTm : TR ρ tm a.tmps) (t : TypeId) (x ix : Operand) (o : Oper) (ho : o.op = .index t x ix) :
    AcOK ρ lk w (aIx t x ix E tm lk) ((execOp a.eval o).run P w) := by
  unfold aIx
  split
  · rename_i v i hx hi
    have hv := ev_sound hz hTm hx
    have hiv := ev_sound hz hTm hi
    refine acO_ok fun r hr => ?_
    unfold index at hr
    split at hr
    · rename_i k n ti hti
      have ok := hT t ti hti
      have hie := hiv.inv_int
      unfold ixD at hr
      split at hr
      · rename_i hd
        split at hr
        · rename_i s
          split at hr
          · rename_i b hb
            cases hr
            have hxe := hv.inv_str
            rw [nth_eq] at hb
            have hb2 : s[n]? = some b := by
              have hlen : n < s.data.toList.length := by
                rcases Nat.lt_or_ge n s.data.toList.length with h | h
                · exact h
                · rw [List.getElem?_eq_none h] at hb; cases hb
              have hs : n < s.size := by simpa using hlen
              rw [getElem?_pos s n hs]
              rw [List.getElem?_eq_getElem hlen] at hb
              have hb3 : s.data[n] = b := by simpa using hb
              exact congrArg some hb3
            refine ⟨_, .int _ _ .nil, ?_⟩
            simp only [execOp, ho, Sem.run_bind, Instr.index, hie, asIntOf, Sem.run_pure, Result.andThen_ok, ok.underlying, hd, hxe, ofNat_cast]
            rw [if_pos (by omega)]
            simp only [Int.toNat_natCast, hb2, Sem.run_pure, Result.andThen_ok]
          · cases hr
        · cases hr
      · rename_i n' e hd
        split at hr
        · rename_i cs te hte
          have oke := hT e te hte
          split at hr
          · rename_i hlt
            have hlt := Nat.blt_eq.mp hlt
            generalize hxe : a.eval x = xe at hv
            cases hv with
            | agg h1 _ =>
              obtain ⟨v', h2, h3⟩ := part_sound (P := P) hT hr h1 w
              refine ⟨v', h3, ?_⟩
              simp only [execOp, ho, Sem.run_bind, Instr.index, hie, asIntOf, Sem.run_pure, Result.andThen_ok, ok.underlying, hd, hxe, ofNat_cast]
              rw [if_pos (by omega)]
              simp only [Sem.run_bind, oke.sizeOf, Result.andThen_ok, Int.toNat_natCast, h2]
          · cases hr
        · cases hr
      · cases hr
    · cases hr
  · trivial

/-! maps -/
theorem mapTy_ok (hT : ∀ t ti, E.T.get t = some ti → TIok P t ti) {t : TypeId} {d : TypeDesc} {te : TI} (h : mapTy E t = some (d, te)) :
    ∃ k e, P.underlying t = some (.map k e) ∧ P.underlying k = some d ∧ TIok P e te := by
  unfold mapTy at h
  split at h
  · rename_i ti hti
    split at h
    · rename_i k e hd
      split at h
      · rename_i tk te' hk he
        cases h
        exact ⟨k, e, hd ▸ (hT t ti hti).und, (hT k tk hk).und, hT e _ he⟩
      · cases h
    · cases h
  · cases h

theorem keyEq_ok {d : TypeDesc} {a b a' b' : Value} {r : Bool} (h : keyEq d a b = some r) (ha : V1 ρ a a') (hb : V1 ρ b b') : Instr.sameNow d a' b' = some r ∧ (r = true → ∀ n, Instr.sameBits (n + 1) b' a' = true) := by
  unfold keyEq at h
  split at h
  · cases h; cases ha; cases hb
    refine ⟨by simp [Instr.sameNow, sEq_eq, beq_toListBytes], fun hr n => ?_⟩
    rw [sEq_eq] at hr
    have := eq_of_beq hr
    simp [Instr.sameBits, beq_toListBytes, this]
  · split at h
    · rename_i hk; have hk := kEq_eq hk
      cases h; cases ha; cases hb; subst hk
      refine ⟨by simp [Instr.sameNow, iEq_eq], fun hr n => ?_⟩
      rw [iEq_eq] at hr
      have := eq_of_beq hr
      subst this
      simp [Instr.sameBits]
    · cases h
  · cases h; cases ha; cases hb
    refine ⟨by simp [Instr.sameNow], fun hr n => ?_⟩
    have := eq_of_beq hr
    subst this
    simp [Instr.sameBits]
  · cases h

theorem find_ok {d : TypeDesc} {k k' : Value} (hk : V1 ρ k k') : ∀ {es : List (Value × Value)} {ents : List MapEntry} {i : Nat} {r : Option Value}, find d k es = some r → VR ρ (es.map (·.1)) (ents.map (·.key)) → VR ρ (es.map (·.2)) (ents.map (·.val)) →
    (r = none → Instr.findNow d k' ents i = some none) ∧ (∀ v, r = some v → ∃ j v', Instr.findNow d k' ents i = some (some (j, v')) ∧ V1 ρ v v')
  | [], ents, i, r, h, h1, _ => by
    simp [find] at h; subst h
    have := h1.nil_l
    have : ents = [] := by simpa using this
    subst this
    exact ⟨fun _ => by simp [Instr.findNow], fun v hv => by cases hv⟩
  | (a, u) :: es, ents, i, r, h, h1, h2 => by
    cases ents with
    | nil => have := h1.length; simp at this
    | cons e ents =>
      obtain ⟨_, _, e1, hka, ht1⟩ := h1.uncons
      obtain ⟨_, _, e2, hva, ht2⟩ := h2.uncons
      simp only [List.map_cons, List.cons.injEq] at e1 e2
      obtain ⟨rfl, rfl⟩ := e1
      obtain ⟨rfl, rfl⟩ := e2
      simp only [find] at h
      split at h
      · rename_i hq
        cases h
        have := (keyEq_ok hq hk hka).1
        exact ⟨fun hh => by (cases hh), fun v hv => ⟨i, e.val, by simp [Instr.findNow, this], by cases hv; exact hva⟩⟩
      · rename_i hq
        have := (keyEq_ok hq hk hka).1
        obtain ⟨g1, g2⟩ := find_ok hk (i := i + 1) h ht1 ht2
        exact ⟨fun hh => by simp [Instr.findNow, this, g1 hh], fun v hv => by
          obtain ⟨j, v', g3, g4⟩ := g2 v hv
          exact ⟨j, v', by simp [Instr.findNow, this, g3], g4⟩⟩
      · cases h

theorem checkKey_plain {k : TypeId} {d : TypeDesc} (hu : P.underlying k = some d) (hp : plainKey d = true) (b : Bool) (n : Nat) (v : Value) : (Instr.checkKey b (n + 1) k v).run P w = .ok () w := by
  unfold plainKey at hp
  split at hp <;> first | (cases hp; done) | (simp [Instr.checkKey, run_underlying hu])

theorem ok_lookup (hT : ∀ t ti, E.T.get t = some ti → TIok P t ti) (H : HRel ρ lk w) (hTm : TR ρ tm a.tmps) (t : TypeId) (x ix : Operand) (ok : Bool) (o : Oper) (ho : o.op = .lookup t x ix ok) :
    AcOK ρ lk w (aLookup t x ix ok E tm lk) ((execOp a.eval o).run P w) := by
  unfold aLookup
  split
  · rename_i m k hx hi
    have hm := ev_sound H.zero hTm hx
    have hk := ev_sound H.zero hTm hi
    refine acO_ok fun r hr => ?_
    unfold lookup at hr
    split at hr
    · rename_i d te es hty hes
      obtain ⟨kt, et, hu, huk, oke⟩ := mapTy_ok hT hty
      have hent : ∃ ents : Array MapEntry, VR ρ (es.map (·.1)) (ents.toList.map (·.key)) ∧ VR ρ (es.map (·.2)) (ents.toList.map (·.val)) ∧
          ((a.eval x = .map none ∧ ents = #[]) ∨ ∃ c cl, a.eval x = .map (some c) ∧ (getObj c).run P w = .ok (.map ents cl) w) := by
        unfold mapOf at hes
        split at hes
        · cases hes
          generalize a.eval x = xe at hm
          cases hm
          exact ⟨#[], .nil, .nil, .inl ⟨rfl, rfl⟩⟩
        · rename_i r0
          split at hes
          · rename_i es' hb
            cases hes
            obtain ⟨c, s, q, hρ, hblk⟩ := H.blk _ _ hb
            generalize a.eval x = xe at hm
            cases hm with
            | map _ c2 q2 hρ2 _ =>
              rw [hρ] at hρ2; cases hρ2
              obtain ⟨_, ents, cl, hw, h1, h2⟩ := hblk
              refine ⟨ents, h1, h2, .inr ⟨c, cl, rfl, ?_⟩⟩
              simp [getObj, Sem.run, hw]
          · cases hes
        · cases hes
      obtain ⟨ents, hv1, hv2, hX⟩ := hent
      have okv : ∀ {v v' : Value} (b : Bool), V1 ρ v v' → V1 ρ (okV ok v b) (if ok then Value.tuple #[v', .bool b] else v') := by
        intro v v' b hv
        cases ok
        · exact hv
        · exact VR.tup (x := [v, .bool b]) (x' := [v', .bool b]) (VR.cons hv (.bool b .nil)) .nil
      split at hr
      · rename_i v hp hf
        cases hr
        obtain ⟨j, v', g3, g4⟩ := (find_ok hk (i := 0) hf hv1 hv2).2 v rfl
        refine ⟨_, okv true g4, ?_⟩
        rcases hX with ⟨e1, e2⟩ | ⟨c, cl, e1, e2⟩
        · subst e2
          simp [Instr.findNow] at g3
        · simp only [execOp, ho, Sem.run_bind, Instr.lookup, run_underlying hu, Result.andThen_ok, e1, e2, Sem.run_pure, checkKey_plain huk hp, Instr.findKey, run_underlying huk, g3]
      · rename_i hp hf
        cases hr
        have g := (find_ok hk (i := 0) hf hv1 hv2).1 rfl
        refine ⟨_, okv false (oke.zero ρ), ?_⟩
        rcases hX with ⟨e1, e2⟩ | ⟨c, cl, e1, e2⟩
        · subst e2
          simp only [execOp, ho, Sem.run_bind, Instr.lookup, run_underlying hu, Result.andThen_ok, e1, Sem.run_pure, checkKey_plain huk hp, Instr.findKey, run_underlying huk, g, oke.zeroValue]
        · simp only [execOp, ho, Sem.run_bind, Instr.lookup, run_underlying hu, Result.andThen_ok, e1, e2, Sem.run_pure, checkKey_plain huk hp, Instr.findKey, run_underlying huk, g, oke.zeroValue]
      · cases hr
    · cases hr
  · trivial
end
end Go.Ev
