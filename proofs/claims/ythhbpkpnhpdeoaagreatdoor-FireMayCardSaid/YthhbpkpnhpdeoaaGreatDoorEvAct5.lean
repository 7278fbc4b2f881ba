/-
  A part of the proof of FireMay: EvAct5. No condition.
-/
import Derived.Test.YthhbpkpnhpdeoaaGreatDoorEvAct4
namespace Go.Ev
open Go

theorem binOp_eql (t : TypeId) {x : Value} (y : Value) (h : notNum x = true) : binOp .eql t x y = (do pure (.bool (← Op.equal t x y))) := by
  cases x <;> first | (simp [notNum] at h; done) | (cases y <;> rfl)
theorem binOp_neq (t : TypeId) {x : Value} (y : Value) (h : notNum x = true) : binOp .neq t x y = (do pure (.bool (!(← Op.equal t x y)))) := by
  cases x <;> first | (simp [notNum] at h; done) | (cases y <;> rfl)

theorem V1.notNum {ρ : Rn} {v v' : Value} (h : V1 ρ v v') : notNum v' = notNum v := by cases h <;> rfl

def isEq (op : BinOp) : Bool := match op with | .eql | .neq => true | _ => false
theorem eqGuard_other (P : Program) (w : World) {op : BinOp} (h : isEq op = false) (t : TypeId) (p q : Operand) (x y : Value) : (eqGuard op t p q x y).run P w = .ok () w := by
  cases op <;> first | (simp [isEq] at h; done) | simp [eqGuard]

theorem eqGuard_nil (P : Program) (w : World) (op : BinOp) (t : TypeId) (p q : Operand) (h : (isC p || isC q) = true) : (eqGuard op t p q .nilIface .nilIface).run P w = .ok () w := by
  cases p <;> cases q <;> first | (simp [isC] at h; done) | (cases op <;> simp [eqGuard])

def gkey (b : Prop) (x y : Value) : Prop := match x, y with
  | .nilIface, .nilIface => False
  | .agg _, .agg _ => b
  | _, _ => True
theorem eqGuard_plain (P : Program) (w : World) (op : BinOp) (t : TypeId) (p q : Operand) {x y : Value} (h1 : x = .nilIface → y ≠ .nilIface) (h2 : ∀ c d, x = .agg c → y = .agg d → P.eqGuardType P.depth t = false) :
    (eqGuard op t p q x y).run P w = .ok () w := by
  cases hop : isEq op
  · exact eqGuard_other P w hop t p q x y
  have key : gkey (P.eqGuardType P.depth t = false) x y := by
    unfold gkey
    split
    · exact h1 rfl rfl
    · exact h2 _ _ rfl rfl
    · trivial
  cases op <;> first | (simp [isEq] at hop; done) | skip
  all_goals
    cases x <;> cases y <;> first | exact key.elim | (simp [eqGuard]; done) | (have key : P.eqGuardType P.depth t = false := key; simp [eqGuard, key])

section
variable {P : Program} {E : Env} {ρ : Rn} {lk : Lk} {w : World} {tm : Tm} {a : Act}

theorem aeq_guard (hT : ∀ t ti, E.T.get t = some ti → TIok P t ti) {d : Nat} {t : TypeId} {x y : Value} {b : Bool} (h : aeq E (d + 1) t x y = some b) {c c' : Array Value} (hx : x = .agg c) (hy : y = .agg c') :
    P.eqGuardType P.depth t = false := by
  subst hx; subst hy
  simp only [aeq] at h
  split at h
  · cases h
  rename_i ti hti
  have ok := hT t ti hti
  split at h <;> first
    | contradiction
    | skip
  · rename_i hd
    split at h
    · rename_i he; exact (ok.eqs he).1
    · cases h
  · rename_i hd
    split at h
    · rename_i he _; exact (ok.eqs he).1
    · cases h

theorem eqK_ok (hT : ∀ t ti, E.T.get t = some ti → TIok P t ti) {t : TypeId} {x y x' y' : Value} {v : Value} {neg : Bool} {p q : Operand} (h : eqK E neg (isC p || isC q) t x y = some v) (hx : V1 ρ x x') (hy : V1 ρ y y') :
    (eqGuard (if neg then .neq else .eql) t p q x' y').run P w = .ok () w ∧ (binOp (if neg then .neq else .eql) t x' y').run P w = .ok v w ∧ V1 ρ v v := by
  unfold eqK at h
  split at h
  · split at h
    · rename_i b hcn hb
      cases h
      have he := (aeq_ok (P := P) hT 100).1 _ _ _ _ _ _ hb hx hy 9900 w
      have he : (Op.equal t x' y').run P w = .ok b w := he
      cases hx; cases hy
      refine ⟨eqGuard_nil P w _ t p q hcn, ?_, .bool _ .nil⟩
      cases neg
      · simp only [Bool.false_eq_true, if_false, binOp_eql t Value.nilIface (x := .nilIface) rfl, Sem.run_bind, he, Result.andThen_ok, Sem.run_pure, Bool.bne_false]
      · simp only [if_true, binOp_neq t Value.nilIface (x := .nilIface) rfl, Sem.run_bind, he, Result.andThen_ok, Sem.run_pure, Bool.bne_true]
    · cases h
  · rename_i hni
    split at h
    · rename_i b hnn hb
      cases h
      have he := (aeq_ok (P := P) hT 100).1 _ _ _ _ _ _ hb hx hy 9900 w
      have he : (Op.equal t x' y').run P w = .ok b w := he
      refine ⟨eqGuard_plain P w _ t p q ?_ ?_, ?_, .bool _ .nil⟩
      · rintro rfl rfl
        cases hx; cases hy
        exact hni rfl rfl
      · rintro c d rfl rfl
        cases hx; cases hy
        exact aeq_guard hT hb rfl rfl
      · have hn : notNum x' = true := by rw [hx.notNum]; exact hnn
        cases neg
        · simp only [Bool.false_eq_true, if_false, binOp_eql t y' hn, Sem.run_bind, he, Result.andThen_ok, Sem.run_pure, Bool.bne_false]
        · simp only [if_true, binOp_neq t y' hn, Sem.run_bind, he, Result.andThen_ok, Sem.run_pure, Bool.bne_true]
    · cases h

theorem bin_ok (hT : ∀ t ti, E.T.get t = some ti → TIok P t ti) {op : BinOp} {t : TypeId} {x y x' y' : Value} {v : Value} {p q : Operand} (h : bin E (isC p || isC q) op t x y = some v) (hx : V1 ρ x x') (hy : V1 ρ y y') :
    (eqGuard op t p q x' y').run P w = .ok () w ∧ (binOp op t x' y').run P w = .ok v w ∧ V1 ρ v v := by
  unfold bin at h
  split at h
  · cases hx; cases hy
    exact ⟨eqGuard_other P w rfl t p q _ _, shiftI_ok h t (.inl rfl)⟩
  · cases hx; cases hy
    exact ⟨eqGuard_other P w rfl t p q _ _, shiftI_ok h t (.inr rfl)⟩
  · split at h
    · rename_i hk; have hk := kEq_eq hk; subst hk
      cases hx; cases hy
      exact ⟨eqGuard_plain P w _ t p q (by simp) (by simp), binI_ok h t⟩
    · cases h
  · cases hx; cases hy
    exact ⟨eqGuard_plain P w _ t p q (by simp) (by simp), binS_ok h t⟩
  · exact eqK_ok (neg := false) hT h hx hy
  · exact eqK_ok (neg := true) hT h hx hy
  · cases h

theorem ok_bin (hT : ∀ t ti, E.T.get t = some ti → TIok P t ti) (hz : ∃ q, ρ 0 = some (0, 0, q)) (hTm : TR ρ tm a.tmps) (op : BinOp) (t : TypeId) (x y : Operand) (u : TypeId) (o : Oper) (ho : o.op = .binOp op t x y u) :
    AcOK ρ lk w (aBin op t x y u E tm lk) ((execOp a.eval o).run P w) := by
  unfold aBin
  split
  · rename_i p q hp hq
    refine acO_ok fun v hv => ?_
    obtain ⟨h1, h2, h3⟩ := bin_ok (P := P) (w := w) hT hv (ev_sound hz hTm hp) (ev_sound hz hTm hq)
    exact ⟨v, h3, by simp only [execOp, ho, Sem.run_bind, h1, Result.andThen_ok, h2, Sem.run_pure]⟩
  · trivial
end
end Go.Ev
