/-
  A part of the proof of FireMay: EvTab. No condition.
-/
import Derived.Test.YthhbpkpnhpdeoaaGreatDoorEvSound2
import Derived.KernelRfl
import Derived.Lib.Bytealg
namespace Go.Ev
open Go

/-! the tables of a real program, checked -/
noncomputable def zokL (f : Value → Bool) : List Value → Bool
  | [] => true
  | v :: l => f v && zokL f l
/-- a value that names no memory -/
noncomputable def zok : Nat → Value → Bool
  | _, .bool _ => true
  | _, .int _ _ => true
  | _, .string _ => true
  | _, .pointer none => true
  | _, .slice none _ _ => true
  | _, .map none => true
  | _, .nilFunc => true
  | _, .nilIface => true
  | n + 1, .agg x => zokL (zok n) x.toList
  | _, _ => false

theorem zok_ok : ∀ (n : Nat) (v : Value), zok n v = true → ∀ ρ, V1 ρ v v := by
  intro n
  induction n with
  | zero =>
    intro v h ρ
    unfold zok at h
    split at h
    · exact .bool _ .nil
    · exact .int _ _ .nil
    · exact .str _ .nil
    · exact .ptr0 .nil
    · exact .sl0 _ _ .nil
    · exact .map0 .nil
    · exact .nilFunc .nil
    · exact .nilIface .nil
    · rename_i h2; cases h2
    · cases h
  | succ n ih =>
    intro v h ρ
    have key : ∀ l : List Value, zokL (zok n) l = true → VR ρ l l := by
      intro l
      induction l with
      | nil => exact fun _ => .nil
      | cons x l ihl =>
        intro hl
        simp only [zokL, Bool.and_eq_true] at hl
        exact VR.cons (ih x hl.1 ρ) (ihl hl.2)
    unfold zok at h
    split at h
    · exact .bool _ .nil
    · exact .int _ _ .nil
    · exact .str _ .nil
    · exact .ptr0 .nil
    · exact .sl0 _ _ .nil
    · exact .map0 .nil
    · exact .nilFunc .nil
    · exact .nilIface .nil
    · rename_i x h2
      cases h2
      exact VR.agg (x := x.toList) (x' := x.toList) (key _ h) .nil
    · cases h

noncomputable def isAggD : TypeDesc → Bool
  | .struct _ => true
  | .array _ _ => true
  | _ => false
noncomputable def offsEq (P : Program) : List Field → List (Nat × TypeId) → Bool
  | [], [] => true
  | f :: fs, (o, t) :: r => Nat.beq f.offset o && Nat.beq f.type t && (P.info? f.type).isSome && offsEq P fs r
  | _, _ => false
noncomputable def offsB (P : Program) (ti : TI) : TypeDesc → Bool
  | .struct fs => offsEq P fs.toList ti.offs
  | _ => true
noncomputable def noBlank : List Field → Bool
  | [] => true
  | f :: fs => !(f.name == "_") && noBlank fs
noncomputable def eqB (P : Program) (t : TypeId) : TypeDesc → Bool
  | .struct fs => !P.eqGuardType P.depth t && !P.stoodInHeld t && noBlank fs.toList
  | _ => !P.eqGuardType P.depth t
noncomputable def infoB (ti : TI) : Option TypeInfo → Bool
  | some i => Nat.beq i.size ti.size && Nat.beq i.bytes ti.bytes && (match i.zero with
    | some z => veq 100 z ti.zero
    | none => false)
  | none => false
noncomputable def bEq : Bool → Bool → Bool
  | true, b => b
  | false, b => !b
/-- all of a type's row but its description -/
noncomputable def tiB (P : Program) (t : TypeId) (ti : TI) : Bool :=
  infoB ti (P.info? t) && zok 100 ti.zero && Nat.beq (cellsOf ti.zero).length ti.size && bEq (isAggD ti.desc) ti.agg && offsB P ti ti.desc && (!ti.eq || eqB P t ti.desc)

theorem offsEq_ok {P : Program} : ∀ (fs : List Field) (r : List (Nat × TypeId)), offsEq P fs r = true → r = fs.map (fun f => (f.offset, f.type)) ∧ ∀ f ∈ fs, ∃ i, P.info? f.type = some i
  | [], [], _ => ⟨rfl, by simp⟩
  | f :: fs, (o, t) :: r, h => by
    simp only [offsEq, Bool.and_eq_true] at h
    obtain ⟨h1, h2⟩ := offsEq_ok fs r h.2
    have e1 := Nat.eq_of_beq_eq_true h.1.1.1
    have e2 := Nat.eq_of_beq_eq_true h.1.1.2
    refine ⟨by rw [h1, ← e1, ← e2]; rfl, fun g hg => ?_⟩
    rcases List.mem_cons.1 hg with rfl | hg
    · exact Option.isSome_iff_exists.1 h.1.2
    · exact h2 g hg
  | [], _ :: _, h => by simp [offsEq] at h
  | _ :: _, [], h => by simp [offsEq] at h
theorem noBlank_ok : ∀ (fs : List Field), noBlank fs = true → ∀ f ∈ fs, f.name ≠ "_"
  | [], _, f, hf => by cases hf
  | g :: fs, h, f, hf => by
    simp only [noBlank, Bool.and_eq_true, Bool.not_eq_true'] at h
    rcases List.mem_cons.1 hf with rfl | hf
    · simpa using h.1
    · exact noBlank_ok fs h.2 f hf

theorem tiOk {P : Program} {t : TypeId} {ti : TI} (hu : P.underlying t = some ti.desc) (h : tiB P t ti = true) : TIok P t ti := by
  simp only [tiB, Bool.and_eq_true, Bool.or_eq_true, Bool.not_eq_true'] at h
  obtain ⟨⟨⟨⟨⟨h1, h2⟩, h3⟩, h4⟩, h5⟩, h6⟩ := h
  refine ⟨?_, hu, zok_ok 100 _ h2, Nat.eq_of_beq_eq_true h3, ?_, fun fs hfs => ?_, fun he => ?_⟩
  · unfold infoB at h1
    split at h1
    · rename_i i hi
      simp only [Bool.and_eq_true] at h1
      obtain ⟨⟨e1, e2⟩, e3⟩ := h1
      split at e3
      · rename_i z hz
        exact ⟨i, hi, Nat.eq_of_beq_eq_true e1, Nat.eq_of_beq_eq_true e2, by rw [hz, veq_eq _ _ _ e3]⟩
      · cases e3
    · cases h1
  · have : isAggD ti.desc = ti.agg := by
      cases hx : isAggD ti.desc <;> cases hy : ti.agg <;> simp [hx, hy, bEq] at h4 ⊢
    rw [← this]
    cases ti.desc <;> rfl
  · rw [hfs] at h5
    exact offsEq_ok _ _ h5
  · rcases h6 with h6 | h6
    · rw [he] at h6; cases h6
    · refine ⟨?_, fun fs hfs => ?_⟩
      · unfold eqB at h6
        split at h6 <;> simp only [Bool.and_eq_true, Bool.not_eq_true'] at h6
        · exact h6.1.1
        · exact h6
      · rw [hfs] at h6
        simp only [eqB, Bool.and_eq_true, Bool.not_eq_true'] at h6
        exact ⟨h6.1.2, noBlank_ok _ h6.2⟩

/-- what holds of all of a tree: the n-th of this subtree is the (a * n + b)-th of the whole -/
inductive AllT {α : Type} (Q : Nat → α → Prop) : Nat → Nat → Tr α → Prop where
  | nil (a b : Nat) : AllT Q a b .nil
  | node (a b : Nat) {l r : Tr α} {x : α} : Q b x → AllT Q (2 * a) (a + b) l → AllT Q (2 * a) (2 * a + b) r → AllT Q a b (.node l (some x) r)
  | none (a b : Nat) {l r : Tr α} : AllT Q (2 * a) (a + b) l → AllT Q (2 * a) (2 * a + b) r → AllT Q a b (.node l none r)

theorem AllT.get {α : Type} {Q : Nat → α → Prop} {a b : Nat} {t : Tr α} (h : AllT Q a b t) : ∀ n x, t.get n = some x → Q (a * n + b) x := by
  have step : ∀ {a b : Nat} {l r : Tr α} {v : Option α}, (∀ n x, l.get n = some x → Q (2 * a * n + (a + b)) x) → (∀ n x, r.get n = some x → Q (2 * a * n + (2 * a + b)) x) → ∀ m x, (Tr.node l v r).get (m + 1) = some x → Q (a * (m + 1) + b) x := by
    intro a b l r v hl hr m x hx
    rw [Tr.get_nodeS] at hx
    split at hx
    · rename_i hm
      have := hl _ _ hx
      have e : 2 * a * (m / 2) + (a + b) = a * (m + 1) + b := by
        have : m = 2 * (m / 2) := by omega
        calc 2 * a * (m / 2) + (a + b) = a * (2 * (m / 2)) + (a + b) := by rw [Nat.mul_comm 2 a, Nat.mul_assoc]
          _ = a * m + (a + b) := by rw [← this]
          _ = a * (m + 1) + b := by rw [Nat.mul_add, Nat.mul_one, Nat.add_assoc]
      rwa [e] at this
    · rename_i hm
      have := hr _ _ hx
      have e : 2 * a * (m / 2) + (2 * a + b) = a * (m + 1) + b := by
        have : m = 2 * (m / 2) + 1 := by omega
        calc 2 * a * (m / 2) + (2 * a + b) = a * (2 * (m / 2)) + (a * 2 + b) := by rw [Nat.mul_comm 2 a, Nat.mul_assoc]
          _ = a * (2 * (m / 2) + 1 + 1) + b := by rw [Nat.mul_add, Nat.mul_add, Nat.mul_one]; omega
          _ = a * (m + 1) + b := by rw [← this]
      rwa [e] at this
  induction h with
  | nil => intro n x hx; rw [Tr.get_nil] at hx; cases hx
  | node a b hq _ _ hl hr =>
    intro n x hx
    cases n with
    | zero => rw [Tr.get_node0] at hx; cases hx; simpa using hq
    | succ m => exact step hl hr m x hx
  | none a b _ _ hl hr =>
    intro n x hx
    cases n with
    | zero => rw [Tr.get_node0] at hx; cases hx
    | succ m => exact step hl hr m x hx
end Go.Ev
