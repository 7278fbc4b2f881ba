/-
  A part of the proof of FireMay: EvOrc. No condition.
-/
import Derived.Test.YthhbpkpnhpdeoaaGreatDoorEvNat
namespace Go.Ev
open Go

/-! earlier results in place of calls -/
/-- a call (its arguments, the first free name, the blocks that it needs) and what it comes to -/
structure Orc where
  vs : List Value
  nx : Nat
  hs : List (Nat × Blk)
  v : Value
  nx' : Nat
  hs' : List (Nat × Blk)

noncomputable def treeO : List (Nat × Blk) → Tr Blk → Tr Blk
  | [], t => t
  | x :: l, t => Tr.put D (treeO l t) x.1 (some x.2)
noncomputable def killsO : List (Nat × Blk) → Tr Blk → Tr Blk
  | [], t => t
  | x :: l, t => Tr.put D (killsO l t) x.1 none
noncomputable def pEqO : List (Value × Value) → List (Value × Value) → Bool
  | [], [] => true
  | a :: l, b :: m => veq 100000 a.1 b.1 && veq 100000 a.2 b.2 && pEqO l m
  | _, _ => false
noncomputable def bkEq : Blk → Blk → Bool
  | .cells s c, .cells s' c' => Nat.beq s s' && veq.go 100000 c c'
  | .map a, .map b => pEqO a b
  | _, _ => false
noncomputable def isB (b : Blk) : Option Blk → Bool
  | some x => bkEq x b
  | none => false
noncomputable def hasB (t : Tr Blk) : List (Nat × Blk) → Bool
  | [] => true
  | x :: l => match isB x.2 (t.get x.1) with
    | true => hasB t l
    | false => false
noncomputable def orcFit (o : Orc) (vs : List Value) (s : St) : Bool := Nat.beq s.nx o.nx && veq.go 100000 vs o.vs && hasB s.h o.hs
noncomputable def orcR (o : Orc) (s : St) : Bool → Option (Value × St)
  | true => some (o.v, ⟨treeO o.hs' (killsO o.hs s.h), o.nx'⟩)
  | false => none
noncomputable def orcN : List Orc → List Value → St → Option (Value × St)
  | [], _, _ => none
  | o :: l, vs, s => match orcFit o vs s with
    | true => orcR o s true
    | false => orcN l vs s
noncomputable def orcB (o : Orc) : Option (Value × St) → Bool
  | some (v, s) => veq 100000 v o.v && Nat.beq s.nx o.nx' && hasB s.h o.hs'
  | none => false
noncomputable def runO (E : Env) (f : FuncId) (o : Orc) : Bool := orcB o (runCall E 1000000 f o.vs ⟨treeO o.hs .nil, o.nx⟩)

theorem treeO_get : ∀ (l : List (Nat × Blk)) (t : Tr Blk) (i : Nat) (b : Blk), (treeO l t).get i = some b → (i, b) ∈ l ∨ t.get i = some b
  | [], _, _, _, h => .inr h
  | x :: l, t, i, b, h => by
    rcases get_put_lk _ _ _ _ _ h with ⟨e, e2⟩ | ⟨_, h2⟩
    · subst e; subst e2; exact .inl (List.mem_cons_self ..)
    · rcases treeO_get l t i b h2 with h3 | h3
      · exact .inl (List.mem_cons_of_mem _ h3)
      · exact .inr h3
theorem killsO_get : ∀ (l : List (Nat × Blk)) (t : Tr Blk) (i : Nat) (b : Blk), (killsO l t).get i = some b → t.get i = some b ∧ ∀ x, (i, x) ∉ l
  | [], _, _, _, h => ⟨h, by simp⟩
  | x :: l, t, i, b, h => by
    rcases Tr.get_put D none (killsO l t) x.1 i b h with ⟨_, h2⟩ | ⟨hne, h2⟩
    · cases h2
    · obtain ⟨h3, h4⟩ := killsO_get l t i b h2
      refine ⟨h3, fun y hy => ?_⟩
      rcases List.mem_cons.1 hy with e | hy
      · subst e; exact hne rfl
      · exact h4 y hy
theorem pEqO_eq : ∀ a b : List (Value × Value), pEqO a b = true → a = b
  | [], [], _ => rfl
  | a :: l, b :: m, h => by
    simp only [pEqO, Bool.and_eq_true] at h
    rw [pEqO_eq l m h.2, Prod.ext (veq_eq _ _ _ h.1.1) (veq_eq _ _ _ h.1.2)]
  | [], _ :: _, h => by simp [pEqO] at h
  | _ :: _, [], h => by simp [pEqO] at h
theorem bkEq_eq {a b : Blk} (h : bkEq a b = true) : a = b := by
  unfold bkEq at h
  split at h
  · simp only [Bool.and_eq_true] at h
    rw [Nat.eq_of_beq_eq_true h.1, veq_go _ _ _ h.2]
  · rw [pEqO_eq _ _ h]
  · cases h
theorem hasB_get (t : Tr Blk) : ∀ (l : List (Nat × Blk)), hasB t l = true → ∀ i b, (i, b) ∈ l → t.get i = some b
  | [], _, _, _, hm => by cases hm
  | x :: l, h, i, b, hm => by
    simp only [hasB] at h
    split at h
    · rename_i hx
      unfold isB at hx
      split at hx
      · rename_i y hy
        rcases List.mem_cons.1 hm with e | hm
        · subst e; rw [hy, bkEq_eq hx]
        · exact hasB_get t l h i b hm
      · cases hx
    · cases h

section
variable {P : Program} {E : Env}
/-- an earlier result holds -/
def OrcOK (P : Program) (f : FuncId) (o : Orc) : Prop :=
  ∃ s', CallSound P f o.vs ⟨treeO o.hs .nil, o.nx⟩ o.v s' ∧ s'.nx = o.nx' ∧ ∀ i b, (i, b) ∈ o.hs' → s'.h.get i = some b

theorem orcOK (K : EnvOK P E) {f : FuncId} {o : Orc} (h : runO E f o = true) : OrcOK P f o := by
  unfold runO orcB at h
  split at h
  · rename_i v s hr
    simp only [Bool.and_eq_true] at h
    have e := veq_eq _ _ _ h.1.1
    subst e
    exact ⟨s, runCall_sound K hr, Nat.eq_of_beq_eq_true h.1.2, hasB_get _ _ h.2⟩
  · cases h

theorem OrcOK.sound {f : FuncId} {o : Orc} (h : OrcOK P f o) {vs : List Value} {s : St} (hf : orcFit o vs s = true) :
    CallSound P f vs s o.v ⟨treeO o.hs' (killsO o.hs s.h), o.nx'⟩ := by
  obtain ⟨s', hc, hnx, hh⟩ := h
  simp only [orcFit, Bool.and_eq_true] at hf
  have e := veq_go _ _ _ hf.1.2
  subst e
  have en := Nat.eq_of_beq_eq_true hf.1.1
  have hb := hasB_get _ _ hf.2
  intro ρ w args S hv
  have sub : ∀ id b, (treeO o.hs .nil).get id = some b → s.h.get id = some b := fun id b hg => by
    rcases treeO_get _ _ _ _ hg with h1 | h1
    · exact hb _ _ h1
    · rw [Tr.get_nil] at h1; cases h1
  have S0 : StOK ρ ⟨treeO o.hs .nil, o.nx⟩ w := ⟨S.rel.sub sub, by rw [← en]; exact S.bd⟩
  refine (hc ρ w args S0 hv).mono ?_
  rintro e w' ⟨v', ρ', rfl, h1, G⟩
  refine ⟨v', ρ', rfl, h1, Pst.aside S.rel G.pst sub (fun id x hx => ?_), ?_, ?_, ?_⟩
  · rcases treeO_get _ _ _ _ hx with h2 | h2
    · exact .inl (hh _ _ h2)
    · obtain ⟨h3, h4⟩ := killsO_get _ _ _ _ h2
      refine .inr ⟨h3, ?_⟩
      cases hg : (treeO o.hs .nil).get id with
      | none => rfl
      | some y =>
        rcases treeO_get _ _ _ _ hg with h5 | h5
        · exact absurd h5 (h4 y)
        · rw [Tr.get_nil] at h5; cases h5
  · show Bd ρ' o.nx'
    rw [← hnx]; exact G.bd
  · show s.nx ≤ o.nx'
    rw [← hnx, en]; exact G.mono
  · intro id hid
    exact G.old id (by rw [en] at hid; exact hid)

theorem orcN_ok {f : FuncId} : ∀ {l : List Orc}, (∀ o ∈ l, OrcOK P f o) → ∀ vs s v s', orcN l vs s = some (v, s') → CallSound P f vs s v s'
  | [], _, _, _, _, _, h => by cases h
  | o :: l, hl, vs, s, v, s', h => by
    simp only [orcN] at h
    split at h
    · rename_i hf
      simp only [orcR] at h
      cases h
      exact (hl o (List.mem_cons_self ..)).sound hf
    · exact orcN_ok (fun o ho => hl o (List.mem_cons_of_mem _ ho)) vs s v s' h
end
end Go.Ev
