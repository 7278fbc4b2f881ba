/-
  A part of the proof of FireMay: EvAct7. No condition.
-/
import Derived.Test.YthhbpkpnhpdeoaaGreatDoorEvAct6
namespace Go.Ev
open Go

section
variable {P : Program} {E : Env} {ρ : Rn} {lk : Lk} {w : World} {tm : Tm} {a : Act}

theorem bound_ok {v v' : Value} {y n : Nat} {y' : Nat} (h : bound v y = some n) (hv : V1 ρ v v') (hy : y ≤ y') (code : BoundsCode) : (Instr.sliceBound v' y' code).run P w = .ok n w ∧ n ≤ y := by
  unfold bound at h
  split at h
  · rename_i k i
    split at h
    · rename_i hb
      cases h
      have hb := Nat.le_of_ble_eq_true hb
      have := hv.inv_int
      subst this
      refine ⟨?_, hb⟩
      simp only [Instr.sliceBound, asIntOf, Sem.run_bind, Sem.run_pure, Result.andThen_ok, ofNat_cast]
      rw [if_pos (by omega)]
      simp
    · cases h
  · cases h

/-- two options of values -/
inductive OR (ρ : Rn) : Option Value → Option Value → Prop where
  | none : OR ρ none none
  | some {v v' : Value} : V1 ρ v v' → OR ρ (some v) (some v')

theorem evOpt_ok (hz : ∃ q, ρ 0 = some (0, 0, q)) (hTm : TR ρ tm a.tmps) {x : Option Operand} {r : Option Value} (h : evOpt tm x = some r) : OR ρ r (x.map a.eval) := by
  cases x with
  | none => simp [evOpt] at h; subst h; exact .none
  | some x =>
    simp only [evOpt] at h
    split at h
    · rename_i v hv
      cases h
      exact .some (ev_sound hz hTm hv)
    · cases h

theorem sliceB_ok {len cap cap' : Nat} {lo hi mx lo' hi' mx' : Option Value} {l h m : Nat} {isSl : Bool} (hs : sliceB len cap lo hi mx = some (l, h, m)) (hlo : OR ρ lo lo') (hhi : OR ρ hi hi') (hmx : OR ρ mx mx')
    (hc : cap ≤ cap') (hle : len ≤ cap) : ∃ m', (Instr.sliceBounds isSl len cap' lo' hi' mx').run P w = .ok (l, h, m') w ∧ m ≤ m' ∧ l ≤ h ∧ h ≤ m ∧ m ≤ cap ∧ (cap = cap' → m' = m) ∧ m' ≤ cap' := by
  unfold sliceB at hs
  split at hs
  · cases hs
  rename_i m0 hm0
  split at hs
  · cases hs
  rename_i h0 hh0
  split at hs
  · cases hs
  rename_i l0 hl0
  cases hs
  cases hmx with
  | none =>
    simp only [Option.some.injEq] at hm0
    subst hm0
    cases hhi with
    | none =>
      simp only [Option.some.injEq] at hh0
      subst hh0
      cases hlo with
      | none =>
        simp only [Option.some.injEq] at hl0
        subst hl0
        exact ⟨cap', by simp [Instr.sliceBounds], hc, Nat.zero_le _, hle, Nat.le_refl _, fun e => e.symm, Nat.le_refl _⟩
      | some hv =>
        obtain ⟨h1, h2⟩ := bound_ok (P := P) (w := w) hl0 hv (Nat.le_refl _) .sliceB
        exact ⟨cap', by simp [Instr.sliceBounds, h1], hc, h2, hle, Nat.le_refl _, fun e => e.symm, Nat.le_refl _⟩
    | some hv2 =>
      obtain ⟨h3, h4⟩ := bound_ok (P := P) (w := w) hh0 hv2 hc (if isSl then .sliceAcap else .sliceAlen)
      cases hlo with
      | none =>
        simp only [Option.some.injEq] at hl0
        subst hl0
        exact ⟨cap', by simp [Instr.sliceBounds, h3], hc, Nat.zero_le _, h4, Nat.le_refl _, fun e => e.symm, Nat.le_refl _⟩
      | some hv =>
        obtain ⟨h1, h2⟩ := bound_ok (P := P) (w := w) hl0 hv (Nat.le_refl _) .sliceB
        exact ⟨cap', by simp [Instr.sliceBounds, h3, h1], hc, h2, h4, Nat.le_refl _, fun e => e.symm, Nat.le_refl _⟩
  | some hv3 =>
    obtain ⟨h5, h6⟩ := bound_ok (P := P) (w := w) hm0 hv3 hc (if isSl then .slice3Acap else .slice3Alen)
    cases hhi with
    | none => simp at hh0
    | some hv2 =>
      obtain ⟨h3, h4⟩ := bound_ok (P := P) (w := w) hh0 hv2 (Nat.le_refl _) .slice3B
      cases hlo with
      | none =>
        simp only [Option.some.injEq] at hl0
        subst hl0
        exact ⟨m, by simp [Instr.sliceBounds, h5, h3], Nat.le_refl _, Nat.zero_le _, h4, h6, fun _ => rfl, Nat.le_trans h6 hc⟩
      | some hv =>
        obtain ⟨h1, h2⟩ := bound_ok (P := P) (w := w) hl0 hv (Nat.le_refl _) .slice3C
        exact ⟨m, by simp [Instr.sliceBounds, h5, h3, h1], Nat.le_refl _, h2, h4, h6, fun _ => rfl, Nat.le_trans h6 hc⟩

theorem mul_part {l m c z : Nat} (h : l ≤ m) (hm : m ≤ c) : l * z + (m - l) * z = m * z ∧ m * z ≤ c * z := by
  refine ⟨?_, Nat.mul_le_mul_right z hm⟩
  rw [← Nat.add_mul]
  congr 1
  omega

theorem slV_ok {a0 : Option Addr} {a1 : Option Addr} {len cap cap' sz l h m m' : Nat} (hv : V1 ρ (.slice a0 len cap) (.slice a1 len cap')) (hst : ∀ b c s q, a0.map (·.block) = some b → ρ b = some (c, s, q) → q.2 = sz)
    (hlh : l ≤ h) (hhm : h ≤ m) (hm : m ≤ m') (hmc : m ≤ cap) (he : cap = cap' → m' = m) (hmc' : m' ≤ cap') :
    V1 ρ (slV a0 sz l h m) (.slice (if m' = l then a1 else a1.map (·.add (l * sz))) (h - l) (m' - l)) := by
  have hb : Nat.beq m l = decide (m = l) := by rw [Bool.eq_iff_iff]; simp
  unfold slV
  rw [hb]
  cases hv with
  | sl0 _ _ _ =>
    have := he rfl; subst this
    by_cases hml : m' = l
    · simp only [hml, decide_true, if_true]; exact .sl0 _ _ .nil
    · simp only [hml, decide_false, if_false, addL, Option.map_none]; exact .sl0 _ _ .nil
  | sl b o n k c s k' q hr hk hm2 _ =>
    have hq := hst b c s q rfl hr
    rw [hq] at hm2
    obtain ⟨e3, e4⟩ := mul_part (z := sz) (show l ≤ m' by omega) hmc'
    by_cases hml : m = l
    · have e1 : h - l = 0 := by omega
      have e2 : m - l = 0 := by omega
      simp only [hml, decide_true, e1]
      rw [show l - l = 0 by omega]
      by_cases hml2 : m' = l
      · rw [if_pos hml2]; exact .slE b o c _ _ s q hr (by omega) (by rw [hml2, hq, Nat.sub_self]; omega) .nil
      · rw [if_neg hml2, Option.map_some, add_none]; exact .slE b o c _ _ s q hr (by omega) (by rw [hq]; omega) .nil
    · simp only [hml, decide_false]
      rw [if_neg (by omega), Option.map_some, add_none, addL]
      rw [show s + o + l * sz = s + (o + l * sz) by omega]
      exact .sl b _ _ _ c s _ q hr (by omega) (by rw [hq]; omega) .nil
  | slE b o c o' k' s q hr hs1 hs2 _ =>
    have hq := hst b c s q rfl hr
    rw [hq] at hs2
    obtain ⟨e3, e4⟩ := mul_part (z := sz) (show l ≤ m' by omega) hmc'
    have : m = 0 := by omega
    subst this
    have : h = 0 := by omega
    subst this
    have : l = 0 := by omega
    subst this
    simp only [decide_true, Nat.zero_mul]
    split
    · rename_i h0; subst h0; exact .slE b o c _ _ s q hr (by omega) (by omega) .nil
    · rw [Option.map_some, add_none]; exact .slE b o c _ _ s q hr (by omega) (by rw [hq]; omega) .nil

theorem ok_slice (hT : ∀ t ti, E.T.get t = some ti → TIok P t ti) (H : HRel ρ lk w) (hTm : TR ρ tm a.tmps) (t : TypeId) (x : Operand) (lo hi mx : Option Operand) (o : Oper) (ho : o.op = .slice t x lo hi mx) :
    AcOK ρ lk w (aSlice t x lo hi mx E tm lk) ((execOp a.eval o).run P w) := by
  unfold aSlice
  split
  · rename_i v l0 h0 m0 hx hlo hhi hmx
    have hv := ev_sound H.zero hTm hx
    have hlo := evOpt_ok H.zero hTm hlo
    have hhi := evOpt_ok H.zero hTm hhi
    have hmx := evOpt_ok H.zero hTm hmx
    have hrun : (execOp a.eval o).run P w = ((Instr.sliceAt t (a.eval x) (lo.map a.eval) (hi.map a.eval) (mx.map a.eval)).run P w).andThen fun v w' => .ok (.value v) w' := by
      simp only [execOp, ho, Sem.run_bind, Sem.run_pure]
    rw [hrun]
    refine acO_ok fun r hr => ?_
    unfold slice at hr
    split at hr
    · rename_i ti hti
      have ok := hT t ti hti
      have hat : ∀ X, (∀ n e, ti.desc ≠ .array n e) → (Instr.sliceAt t X (lo.map a.eval) (hi.map a.eval) (mx.map a.eval)).run P w = (Instr.slice t X (lo.map a.eval) (hi.map a.eval) (mx.map a.eval)).run P w := by
        intro X hX
        simp only [Instr.sliceAt, Sem.run_bind, ok.underlying, Result.andThen_ok]
      split at hr
      · rename_i hd
        rw [hat _ (fun n e h => by rw [hd] at h; cases h)]
        unfold slStr at hr
        split at hr
        · rename_i s
          split at hr
          · rename_i l h m hs _
            cases hr
            have := hv.inv_str
            rw [this]
            generalize mx.map a.eval = mx' at hmx
            cases hmx
            obtain ⟨m', h1, h2, h3, h4, h5, h6⟩ := sliceB_ok (P := P) (w := w) (isSl := false) hs hlo hhi .none (Nat.le_refl _) (Nat.le_refl _)
            refine ⟨_, .str _ .nil, ?_⟩
            have hsz : s.data.toList.length = s.size := by simp
            rw [hsz] at h1
            simp only [Instr.slice, Sem.run_bind, ok.underlying, hd, Result.andThen_ok, Option.isSome_none, Bool.false_eq_true, if_false, Sem.run_pure, h1, Lib.extract_eq]
            rfl
          · cases hr
        · cases hr
      · rename_i e hd
        rw [hat _ (fun n e h => by rw [hd] at h; cases h)]
        split at hr
        · rename_i te hte
          have oke := hT e te hte
          unfold slSl at hr
          split at hr
          · rename_i a0 len cap
            split at hr
            · rename_i l h m hle hs
              cases hr
              rw [Bool.and_eq_true] at hle
              obtain ⟨hle, hso⟩ := hle
              have hle := Nat.le_of_ble_eq_true hle
              have hst : ∀ b c s q, a0.map (·.block) = some b → ρ b = some (c, s, q) → q.2 = te.size := by
                intro b c s q hb hρ
                cases a0 with
                | none => cases hb
                | some ad =>
                  simp at hb
                  subst hb
                  unfold strideOk strideB at hso
                  simp only at hso
                  split at hso
                  · rename_i st cs hlk
                    have hso := Nat.eq_of_beq_eq_true hso
                    obtain ⟨c2, s2, q2, hρ2, hblk⟩ := H.blk _ _ hlk
                    rw [hρ] at hρ2; cases hρ2
                    rw [hblk.2.1, hso]
                  · cases hso
              generalize a.eval x = xe at hv
              have key : ∃ a1 cap', xe = .slice a1 len cap' ∧ cap ≤ cap' := by
                cases hv with
                | sl0 _ _ _ => exact ⟨_, _, rfl, Nat.le_refl _⟩
                | sl _ _ _ _ _ _ _ _ _ hk _ _ => exact ⟨_, _, rfl, hk⟩
                | slE _ _ _ _ _ _ _ _ _ _ _ => exact ⟨_, _, rfl, Nat.zero_le _⟩
              obtain ⟨a1, cap', rfl, hcc⟩ := key
              obtain ⟨m', h1, h2, h3, h4, h5, h6, h7⟩ := sliceB_ok (P := P) (w := w) (isSl := true) hs hlo hhi hmx hcc hle
              refine ⟨_, slV_ok hv hst h3 h4 h2 h5 h6 h7, ?_⟩
              simp only [Instr.slice, Sem.run_bind, ok.underlying, hd, Result.andThen_ok, h1, oke.sizeOf, Sem.run_pure]
            · cases hr
          · cases hr
        · cases hr
      · cases hr
    · cases hr
  · trivial
end
end Go.Ev
