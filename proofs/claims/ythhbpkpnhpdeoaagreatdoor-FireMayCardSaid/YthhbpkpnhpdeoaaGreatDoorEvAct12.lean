/-
  A part of the proof of FireMay: EvAct12. No condition.
-/
import Derived.Test.YthhbpkpnhpdeoaaGreatDoorEvAct11
namespace Go.Ev
open Go

/-- functions without a body: what the machine answers -/
def ExtOK (P : Program) (E : Env) : Prop := ∀ f g, E.X f = some g → ∀ vs v, g vs = some v → ∀ (ρ : Rn) (args : List Value), VR ρ vs args → ∀ w, ∃ v', V1 ρ v v' ∧ (callFunc f args.toArray).run P w = .ok (.value v') w
/-- the others have one -/
def BodyOK (P : Program) (E : Env) : Prop := ∀ f, E.X f = none → ∀ args w, (∃ fn, P.funcs[f]? = some fn ∧ fn.body.isSome ∧ fn.name ≠ "runtime.NumGoroutine") → (callFunc f args).run P w = .ok (.enter f args) w

section
variable {P : Program} {E : Env} {ρ : Rn} {lk : Lk} {w : World} {tm : Tm} {a : Act}

theorem lenT_ok (hT : ∀ t ti, E.T.get t = some ti → TIok P t ti) {t ty : TypeId} {v v' r : Value} (h : lenT E t v = some r) (hv : V1 ρ v v') : (Builtin.len_ #[t] ty #[v']).run P w = .ok r w ∧ V1 ρ r r := by
  unfold lenT at h
  split at h
  · rename_i ti hti
    have ok := hT t ti hti
    unfold lenD at h
    split at h
    · rename_i hd
      split at h
      · cases h
        have := hv.inv_str
        subst this
        refine ⟨?_, .int _ _ .nil⟩
        simp [Builtin.len_, ok.underlying, hd, goInt]
      · cases h
    · rename_i e hd
      split at h
      · cases h
        refine ⟨?_, .int _ _ .nil⟩
        cases hv <;> simp [Builtin.len_, ok.underlying, hd, goInt]
      · cases h
    · cases h
  · cases h

theorem maxL_ok : ∀ {l l' : List Value} {x x' r : Value}, maxL false x l = some r → V1 ρ x x' → VR ρ l l' → ∃ r', V1 ρ r r' ∧ (l'.foldlM Builtin.max2 x').run P w = .ok r' w
  | [], _, x, x', r, h, hx, hl => by
    cases hl; simp [maxL] at h; subst h; exact ⟨x', hx, by simp⟩
  | y :: l, _, x, x', r, h, hx, hl => by
    obtain ⟨y', l', rfl, hy, hl'⟩ := hl.uncons
    cases x <;> cases y <;> simp only [maxL] at h <;> first | (cases h; done) | skip
    rename_i k p k2 q
    have e1 := hx.inv_int
    have e2 := hy.inv_int
    subst e1; subst e2
    simp only [Bool.false_eq_true, if_false, iLt_eq, decide_eq_true_eq] at h
    obtain ⟨r', h1, h2⟩ := maxL_ok h (VR.int (ρ := ρ) k _ .nil) hl'
    refine ⟨r', h1, ?_⟩
    simp only [List.foldlM_cons, Builtin.max2, Sem.run_bind, Sem.run_pure, Result.andThen_ok]
    have : (if q > p then q else p) = (if p < q then q else p) := rfl
    rw [this]
    exact h2
theorem minL_ok : ∀ {l l' : List Value} {x x' r : Value}, maxL true x l = some r → V1 ρ x x' → VR ρ l l' → ∃ r', V1 ρ r r' ∧ (l'.foldlM Builtin.min2 x').run P w = .ok r' w
  | [], _, x, x', r, h, hx, hl => by
    cases hl; simp [maxL] at h; subst h; exact ⟨x', hx, by simp⟩
  | y :: l, _, x, x', r, h, hx, hl => by
    obtain ⟨y', l', rfl, hy, hl'⟩ := hl.uncons
    cases x <;> cases y <;> simp only [maxL] at h <;> first | (cases h; done) | skip
    rename_i k p k2 q
    have e1 := hx.inv_int
    have e2 := hy.inv_int
    subst e1; subst e2
    simp only [if_true, iLt_eq, decide_eq_true_eq] at h
    obtain ⟨r', h1, h2⟩ := minL_ok h (VR.int (ρ := ρ) k _ .nil) hl'
    refine ⟨r', h1, ?_⟩
    simp only [List.foldlM_cons, Builtin.min2, Sem.run_bind, Sem.run_pure, Result.andThen_ok]
    exact h2

theorem asVal_ok {v : Value} {w' : World} : asVal (.ok v w') = .ok (.value v) w' := rfl

theorem list_arr {α : Type} {x : Array α} {l : List α} (h : x.toList = l) : x = l.toArray := by rw [← h]

theorem ok_builtin (hT : ∀ t ti, E.T.get t = some ti → TIok P t ti) (H : HRel ρ lk w) {b : Builtin} {vs args : List Value} {ts : List TypeId} {ty : TypeId} {cs : Array Bool} (hv : VR ρ vs args) :
    AcOK ρ lk w (builtinV E lk b vs ts) ((builtin b ts.toArray ty cs args.toArray).run P w) := by
  unfold builtinV
  split
  · -- len
    rename_i v t
    obtain ⟨v', t', rfl, h1, h2⟩ := hv.uncons
    have := h2.nil_l; subst this
    refine acO_ok fun r hr => ?_
    obtain ⟨h3, h4⟩ := lenT_ok (P := P) (w := w) (ty := ty) hT hr h1
    exact ⟨r, h4, by simp only [builtin, Sem.run_bind, h3, Result.andThen_ok, Sem.run_pure]⟩
  · -- cap
    rename_i n c t
    obtain ⟨v', t', rfl, h1, h2⟩ := hv.uncons
    have := h2.nil_l; subst this
    split
    · rename_i te hte
      obtain ⟨e, hu, ok⟩ := elemSl_ok hT hte
      cases h1
      exact ⟨_, .int _ _ .nil, by simp [builtin, Builtin.cap_, run_underlying hu, goInt]⟩
    · trivial
  · -- max
    rename_i x l
    obtain ⟨x', l', rfl, h1, h2⟩ := hv.uncons
    refine acO_ok fun r hr => ?_
    obtain ⟨r', h3, h4⟩ := maxL_ok (P := P) (w := w) hr h1 h2
    exact ⟨r', h3, by simp only [builtin, Builtin.max_, Sem.run_bind, h4, Result.andThen_ok, Sem.run_pure]⟩
  · -- min
    rename_i x l
    obtain ⟨x', l', rfl, h1, h2⟩ := hv.uncons
    refine acO_ok fun r hr => ?_
    obtain ⟨r', h3, h4⟩ := minL_ok (P := P) (w := w) hr h1 h2
    exact ⟨r', h3, by simp only [builtin, Builtin.min_, Sem.run_bind, h4, Result.andThen_ok, Sem.run_pure]⟩
  · -- append
    rename_i base n cap x t u
    obtain ⟨s', l', rfl, h1, h2⟩ := hv.uncons
    obtain ⟨x', l', rfl, h3, h4⟩ := h2.uncons
    have := h4.nil_l; subst this
    split
    · rename_i te hte hni
      have := ok_append (P := P) (ty := ty) hT H hte hni h1 h3
      simpa [builtin] using this
    · trivial
  · -- clear nil
    obtain ⟨s', l', rfl, h1, h2⟩ := hv.uncons
    have := h2.nil_l; subst this
    split
    · rename_i te hte
      obtain ⟨e, hu, ok⟩ := elemSl_ok hT hte
      cases h1
      exact ⟨_, V1.undef, by simp [builtin, Builtin.clear_, run_underlying hu]; rfl⟩
    · trivial
  · -- clear
    rename_i b o n cap t
    obtain ⟨s', l', rfl, h1, h2⟩ := hv.uncons
    have := h2.nil_l; subst this
    split
    · rename_i te hte
      obtain ⟨e, hu, ok⟩ := elemSl_ok hT hte
      cases h1 with
      | sl _ _ _ _ c s k' q hr hk hm2 _ =>
        refine ok_putCells (P := P) (v' := undef) H hr (by
          have := (cellsOf_rel (ok.zero ρ)).repl (n + 1)
          rw [← zeroCells_list te.zero.cells (n + 1)] at this
          exact this) V1.undef (r := fun w' => .ok (.value undef) w') (fun w' => .inl rfl) (fun w' hst => ?_)
        simp only [builtin, Builtin.clear_, Sem.run_bind, List.getElem?_toArray, List.getElem?_cons_zero, run_underlying hu, Result.andThen_ok, ok.zeroValue, hst, Sem.run_pure]
        rfl
    · trivial
  · -- clear, nothing there
    obtain ⟨s', l', rfl, h1, h2⟩ := hv.uncons
    have := h2.nil_l; subst this
    split
    · rename_i te hte
      obtain ⟨e, hu, ok⟩ := elemSl_ok hT hte
      refine ⟨_, V1.undef, ?_⟩
      cases h1 <;> (simp [builtin, Builtin.clear_, run_underlying hu]; rfl)
    · trivial
  · -- recover
    simp [AcOK, builtin]
  · trivial
end
end Go.Ev
