/-
  A part of the proof of FireMay: EvNat. No condition.
-/
import Derived.Test.YthhbpkpnhpdeoaaGreatDoorEvTab
import Derived.Laws.Externs
namespace Go.Ev
open Go

section
variable {P : Program} {E : Env}

/-- a call that touches no memory -/
theorem CallSound.still {f : FuncId} {vs : List Value} {v : Value} (h : ∀ nx, CallSound P f vs ⟨.nil, nx⟩ v ⟨.nil, nx⟩) (s : St) : CallSound P f vs s v s := by
  intro ρ w args S hv
  have S0 : StOK ρ ⟨.nil, s.nx⟩ w := ⟨S.rel.sub (fun id b hb => by rw [Tr.get_nil] at hb; cases hb), S.bd⟩
  refine (h s.nx ρ w args S0 hv).mono ?_
  rintro e w' ⟨v', ρ', rfl, h1, G⟩
  exact ⟨v', ρ', rfl, h1, Pst.aside S.rel G.pst (fun id b hb => by rw [Tr.get_nil] at hb; cases hb) (fun id x hx => .inr ⟨hx, rfl⟩), G.bd, Nat.le_refl _, G.old⟩

noncomputable def findW : List (List UInt8 × Bool) → List UInt8 → Option Bool
  | [], _ => none
  | (k, b) :: l, s => match lEq k s with
    | true => some b
    | false => findW l s
theorem findW_mem : ∀ {l : List (List UInt8 × Bool)} {s : List UInt8} {b : Bool}, findW l s = some b → (s, b) ∈ l
  | [], _, _, h => by simp [findW] at h
  | (k, b') :: l, s, b, h => by
    simp only [findW] at h
    split at h
    · rename_i he
      cases h
      rw [lEq_eq _ _ he]
      simp
    · exact List.mem_cons_of_mem _ (findW_mem h)

/-- a function of one string that answers a bool, at the strings of a row -/
noncomputable def wordN (l : List (List UInt8 × Bool)) : List Value → St → Option (Value × St)
  | [.string s], st => match findW l s.data.toList with
    | some b => some (.bool b, st)
    | none => none
  | _, _ => none
theorem wordN_ok {f : FuncId} {l : List (List UInt8 × Bool)} (h : ∀ k b, (k, b) ∈ l → ∀ s, CallSound P f [.string (ofL k)] s (.bool b) s) : ∀ vs s v s', wordN l vs s = some (v, s') → CallSound P f vs s v s' := by
  intro vs s v s' hw
  unfold wordN at hw
  split at hw
  · rename_i st x
    split at hw
    · rename_i b hb
      cases hw
      have := h _ _ (findW_mem hb) s
      have e : ofL x.data.toList = x := by
        unfold ofL
        cases x
        rfl
      rw [e] at this
      exact this
    · cases hw
  · cases hw

/-- two strings, held against each other -/
noncomputable def cmpX : List Value → Option Value
  | [.string a, .string b] => some (.int .i64 (match sLt a b with
    | true => -1
    | false => match sEq a b with
      | true => 0
      | false => 1))
  | _ => none
theorem cmp_lists : ∀ a b : List UInt8, Go.Lib.compareBytes a b = (match lLt a b with
    | true => -1
    | false => match lEq a b with
      | true => 0
      | false => 1)
  | [], [] => rfl
  | [], _ :: _ => rfl
  | _ :: _, [] => rfl
  | a :: as, b :: bs => by
    have ih := cmp_lists as bs
    unfold Go.Lib.compareBytes lLt lEq
    rcases Nat.lt_trichotomy a.toNat b.toNat with h | h | h
    · have h1 : Nat.blt a.toNat b.toNat = true := Nat.blt_eq.mpr h
      rw [h1, if_pos (UInt8.lt_iff_toNat_lt.2 h)]
    · have h1 : Nat.blt a.toNat b.toNat = false := by
        cases hb : Nat.blt a.toNat b.toNat with
        | false => rfl
        | true => have := Nat.blt_eq.mp hb; omega
      have h2 : Nat.beq a.toNat b.toNat = true := by rw [h]; exact Nat.beq_refl _
      rw [h1, h2, if_neg (fun h3 => by have := UInt8.lt_iff_toNat_lt.1 h3; omega), if_neg (fun h3 => by have := UInt8.lt_iff_toNat_lt.1 h3; omega), ih]
    · have h1 : Nat.blt a.toNat b.toNat = false := by
        cases hb : Nat.blt a.toNat b.toNat with
        | false => rfl
        | true => have := Nat.blt_eq.mp hb; omega
      have h2 : Nat.beq a.toNat b.toNat = false := by
        cases hb : Nat.beq a.toNat b.toNat with
        | false => rfl
        | true => have := Nat.eq_of_beq_eq_true hb; omega
      rw [h1, h2, if_neg (fun h3 => by have := UInt8.lt_iff_toNat_lt.1 h3; omega), if_pos (UInt8.lt_iff_toNat_lt.2 h)]

theorem cmpX_ok {f : FuncId} {fn : Func} (hf : P.funcs[f]? = some fn) (hname : (fn.name == "runtime.NumGoroutine") = false) (hbody : fn.body = none) (hnext : (Extern.findNext fn).isNone = true)
    (hfind : Extern.find fn = some Extern.BytealgCompare.compare) :
    ∀ vs v, cmpX vs = some v → ∀ (ρ : Rn) (args : List Value), VR ρ vs args → ∀ w, ∃ v', V1 ρ v v' ∧ (callFunc f args.toArray).run P w = .ok (.value v') w := by
  intro vs v h ρ args hv w
  unfold cmpX at h
  split at h
  · rename_i a b
    cases h
    obtain ⟨x, t, rfl, h1, h2⟩ := hv.uncons
    obtain ⟨y, t', rfl, h3, h4⟩ := h2.uncons
    have := h4.nil_l; subst this
    cases h1; cases h3
    refine ⟨_, .int _ _ .nil, ?_⟩
    have hn : Extern.findNext fn = none := by simpa using hnext
    have hb : (fn.name == "runtime.NumGoroutine") = false := hname
    have hcmp := Go.Lib.run_compareString (P := P) a b w
    rw [cmp_lists] at hcmp
    simp only [callFunc, Sem.run_bind, run_program, Result.andThen_ok, hf, hb, Bool.false_eq_true, if_false, hbody, Option.isNone_none, if_true, run_mark, hn, hfind, Sem.run_pure]
    show ((Extern.BytealgCompare.compare #[.string a, .string b]).run P w).andThen _ = _
    rw [hcmp]
    rfl
  · cases h
end

/-- a function's row -/
def FunOk (P : Program) (f : FuncId) (fn : Func) : Prop := P.funcs[f]? = some fn ∧ fn.name ≠ "runtime.NumGoroutine"
theorem name_ne {s t : String} (h : (s == t) = false) : s ≠ t := by simpa using h
end Go.Ev
