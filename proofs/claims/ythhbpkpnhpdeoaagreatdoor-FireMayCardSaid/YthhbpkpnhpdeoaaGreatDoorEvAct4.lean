/-
  A part of the proof of FireMay: EvAct4. No condition.
-/
import Derived.Test.YthhbpkpnhpdeoaaGreatDoorEvAct3
import Derived.Laws.StructEq
namespace Go.Ev
open Go

section
variable {P : Program} {E : Env} {ρ : Rn} {lk : Lk} {w : World} {tm : Tm} {a : Act}

set_option maxHeartbeats 1000000 in
theorem aeq_ok (hT : ∀ t ti, E.T.get t = some ti → TIok P t ti) : ∀ d,
    (∀ t x y b x' y', aeq E d t x y = some b → V1 ρ x x' → V1 ρ y y' → ∀ k w, (Op.equalIn (d + k) t x' y').run P w = .ok b w) ∧
    (∀ (fs : List Field) xs ys b xs' ys', aeqFields E d (fs.map fun f => (f.offset, f.type)) xs ys = some b → (∀ f ∈ fs, f.name ≠ "_") → VR ρ xs xs' → VR ρ ys ys' →
      ∀ k w, (Op.eqFields (d + k) ⟨xs'⟩ ⟨ys'⟩ fs).run P w = .ok b w) ∧
    (∀ n i t s xs ys b xs' ys', aeqElems E d t s n i xs ys = some b → VR ρ xs xs' → VR ρ ys ys' →
      ∀ k w, (Op.eqItems (d + k) t s ⟨xs'⟩ ⟨ys'⟩ (List.range' i n)).run P w = .ok b w)
  | 0 => ⟨fun _ _ _ _ _ _ h => by simp [aeq] at h, fun _ _ _ _ _ _ h => by simp [aeqFields] at h, fun _ _ _ _ _ _ _ _ _ h => by simp [aeqElems] at h⟩
  | d + 1 => by
    obtain ⟨ih1, ih2, ih3⟩ := aeq_ok hT d
    refine ⟨?_, ?_, ?_⟩
    · intro t x y b x' y' h hx hy k w
      rw [show d + 1 + k = (d + k) + 1 by omega]
      simp only [aeq] at h
      split at h
      · cases h
      rename_i ti hti
      have ok := hT t ti hti
      split at h
      case h_1 hd => cases h; cases hx; cases hy; simp [Op.equalIn, ok.underlying, hd]
      case h_2 hd =>
        split at h
        · rename_i hk; have hk := kEq_eq hk
          cases h; cases hx; cases hy; subst hk; simp [Op.equalIn, ok.underlying, hd, iEq_eq]
        · cases h
      case h_3 hd => cases h; cases hx; cases hy; simp [Op.equalIn, ok.underlying, hd, sEq_eq, beq_toListBytes]
      case h_4 hd => cases h; cases hx; cases hy <;> simp [Op.equalIn, ok.underlying, hd]
      case h_5 hd => cases h; cases hy; cases hx <;> first | (simp [Op.equalIn, ok.underlying, hd]; done) | (exfalso; rename_i hh _; exact hh rfl)
      case h_6 hd => cases h; cases hx; cases hy; simp [Op.equalIn, ok.underlying, hd]
      case h_7 hd => cases h; cases hx; cases hy; simp [Op.equalIn, ok.underlying, hd]
      case h_8 hd => cases h; cases hx; cases hy; simp [Op.equalIn, ok.underlying, hd]
      case h_9 hd => cases h; cases hx; cases hy <;> simp [Op.equalIn, ok.underlying, hd]
      case h_10 hd => cases h; cases hy; cases hx <;> first | (simp [Op.equalIn, ok.underlying, hd]; done) | (exfalso; rename_i hh _; exact hh rfl)
      case h_11 hd => cases h; cases hx; cases hy <;> simp [Op.equalIn, ok.underlying, hd]
      case h_12 hd => cases h; cases hy; cases hx <;> first | (simp [Op.equalIn, ok.underlying, hd]; done) | (exfalso; rename_i hh _; exact hh rfl)
      case h_13 hd => cases h; cases hx; cases hy; simp [Op.equalIn, ok.underlying, hd]
      case h_14 hd => cases h; cases hx; cases hy; simp [Op.equalIn, ok.underlying, hd]
      case h_15 hd => cases h; cases hx; cases hy; simp [Op.equalIn, ok.underlying, hd]
      case h_16 fs xs ys hd =>
        split at h
        case h_2 => cases h
        rename_i he
        cases hx with
        | agg hx _ => cases hy with
          | agg hy _ =>
            obtain ⟨hof, _⟩ := ok.offs _ hd
            obtain ⟨_, hq⟩ := ok.eqs he
            obtain ⟨hst, hnm⟩ := hq _ hd
            have hf : P.fieldsOf t = fs := by simp only [Program.fieldsOf, ok.und, hd]
            rw [run_equalIn_struct w (d + k) t _ _ (by rw [ok.und, hd, hf]) hst]
            rw [hf]
            rw [hof] at h
            exact ih2 _ _ _ _ _ _ h hnm hx hy k w
      case h_17 n e xs ys hd =>
        split at h
        case h_2 => cases h
        rename_i te he hte
        cases hx with
        | agg hx _ => cases hy with
          | agg hy _ =>
            have oke := hT e te hte
            obtain ⟨j, hj, hs, _⟩ := oke.info
            rw [run_equalIn_array w (d + k) _ _ (by rw [ok.und, hd]) hj]
            have hc : P.cellsOf e = te.size := by simp [Program.cellsOf, hj, hs]
            rw [hc, List.range_eq_range']
            exact ih3 _ _ _ _ _ _ _ _ _ h hx hy k w
      case h_18 => cases h
    · intro fs xs ys b xs' ys' h hnm hx hy k w
      rw [show d + 1 + k = d + (k + 1) by omega]
      cases fs with
      | nil => simp [aeqFields] at h; subst h; simp [Op.eqFields]
      | cons f fs =>
        simp only [List.map_cons, aeqFields] at h
        split at h
        · rename_i u v hu hv
          obtain ⟨u', h1, h2⟩ := part_sound (P := P) hT hu hx w
          obtain ⟨v', h3, h4⟩ := part_sound (P := P) hT hv hy w
          rw [Op.eqFields, if_pos (hnm f (by simp))]
          split at h
          · rename_i hq
            have h5 := ih1 _ _ _ _ _ _ hq h2 h4 (k + 1) w
            simp only [Sem.run_bind, h1, Result.andThen_ok, h3, h5]
            have := ih2 fs _ _ _ _ _ h (fun g hg => hnm g (by simp [hg])) hx hy (k + 1) w
            simpa using this
          · rename_i hne
            cases hq : aeq E d f.type u v with
            | none => rw [hq] at h; cases h
            | some bb =>
              cases bb
              · rw [hq] at h; cases h
                have h5 := ih1 _ _ _ _ _ _ hq h2 h4 (k + 1) w
                simp [h1, h3, h5]
              · exact absurd hq (hne)
        · cases h
    · intro n i t s xs ys b xs' ys' h hx hy k w
      rw [show d + 1 + k = d + (k + 1) by omega]
      cases n with
      | zero => simp [aeqElems] at h; subst h; simp [Op.eqItems]
      | succ n =>
        simp only [aeqElems] at h
        split at h
        · rename_i u v hu hv
          obtain ⟨u', h1, h2⟩ := part_sound (P := P) hT hu hx w
          obtain ⟨v', h3, h4⟩ := part_sound (P := P) hT hv hy w
          rw [List.range'_succ, Op.eqItems]
          split at h
          · rename_i hq
            have h5 := ih1 _ _ _ _ _ _ hq h2 h4 (k + 1) w
            simp only [Sem.run_bind, h1, Result.andThen_ok, h3, h5]
            have := ih3 n (i + 1) _ _ _ _ _ _ _ h hx hy (k + 1) w
            simpa using this
          · rename_i hne
            cases hq : aeq E d t u v with
            | none => rw [hq] at h; cases h
            | some bb =>
              cases bb
              · rw [hq] at h; cases h
                have h5 := ih1 _ _ _ _ _ _ hq h2 h4 (k + 1) w
                simp [h1, h3, h5]
              · exact absurd hq (hne)
        · cases h
end
end Go.Ev
