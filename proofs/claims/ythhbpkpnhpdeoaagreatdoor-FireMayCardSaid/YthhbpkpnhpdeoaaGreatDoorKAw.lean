/-
  A part of the proof of FireMay: KAw. No condition.
-/
import Derived.Test.YthhbpkpnhpdeoaaGreatDoorKO2
import Derived.Test.YthhbpkpnhpdeoaaGreatDoorEvTop
namespace KX
open Go Go.Ev Go.Proofs
noncomputable def nat3 (f : Nat) : Option (List Value → St → Option (Value × St)) := match Nat.beq f 8 with
  | true => some (orcN [o8_11])
  | false => nat2 f
noncomputable def E3 : Env := ⟨ft, tt, nat3, extF⟩
theorem E3_ok : EnvOK Tryz.prog E3 := { tab _ with
  mixed := mixed
  nat := fun f g h => by
    have h : nat3 f = some g := h
    unfold nat3 at h
    split at h
    · rename_i he
      cases h
      have := Nat.eq_of_beq_eq_true he
      subst this
      refine orcN_ok fun o ho => ?_
      simp only [List.mem_cons, List.mem_nil_iff, or_false] at ho
      subst ho
      · exact o8_11_ok
    · exact E2_ok.nat f g h }
noncomputable def nullA : List Value := [.int .i64 0, .int .i64 0, .string (ofL [])]
noncomputable def s0 : St := ⟨Tr.put D Tr.nil 0 (some (.cells 0 nullA)), 10⟩
noncomputable def good : Option (Value × St) → Bool
  | some (.bool true, s) => isB (.cells 0 nullA) (s.h.get 0)
  | _ => false
theorem good_inv {r : Option (Value × St)} (h : good r = true) : ∃ s, r = some (.bool true, s) ∧ s.h.get 0 = some (.cells 0 nullA) := by
  unfold good at h
  split at h
  · rename_i s
    refine ⟨s, rfl, ?_⟩
    unfold isB at h
    split at h
    · rename_i x hx
      rw [hx, bkEq_eq h]
    · cases h
  · cases h
theorem aw : good (runCall E3 1000000 5 [] s0) = true := by kernel_rfl
/-- awake() is true, and turns nothing that was there -/
theorem awake_calls {w : World} (hw : Laid0 nullA w) : Calls Tryz.prog 5 #[] w fun e w' => e = .returned (.bool true) ∧ RowKit.Below w.heap.size w w' := by
  obtain ⟨s, h1, h2⟩ := good_inv aw
  exact top_calls (by intro v hv; simp [nullA] at hv; rcases hv with rfl | rfl | rfl <;> rfl) (by decide) (runCall_sound E3_ok h1) h2 hw
end KX
