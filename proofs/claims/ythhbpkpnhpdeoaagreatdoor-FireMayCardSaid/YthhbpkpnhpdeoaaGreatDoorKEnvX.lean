/-
  A part of the proof of FireMay: KEnvX. No condition.
-/
import Derived.Test.YthhbpkpnhpdeoaaGreatDoorKTab
import Derived.Test.YthhbpkpnhpdeoaaGreatDoorKFun
import Derived.Test.YthhbpkpnhpdeoaaGreatDoorEvNat
namespace KX
open Go Go.Ev Go.Proofs
noncomputable def extF (f : Nat) : Option (List Value → Option Value) := match Nat.beq f 186 with
  | true => some cmpX
  | false => none
noncomputable def E0 : Env := ⟨ft, tt, fun _ => none, extF⟩
theorem tab (N : Nat → Option (List Value → St → Option (Value × St))) : TabOK Tryz.prog ⟨ft, tt, N, extF⟩ where
  typ := fun t ti h => by
    have := tt_ok.get t ti h
    rwa [Nat.one_mul, Nat.add_zero] at this
  fn := fun f fn h => by
    have := ft_ok.get f fn h
    rw [Nat.one_mul, Nat.add_zero] at this
    exact this
  ext := fun f g h => by
    have h : extF f = some g := h
    unfold extF at h
    split at h
    · rename_i he
      cases h
      rw [Nat.eq_of_beq_eq_true he]
      exact cmpX_ok (fn := Tryz.f186) (by kernel_rfl) (by kernel_rfl) (by kernel_rfl) (by kernel_rfl) (by kernel_rfl)
    · cases h
theorem mixed : Tryz.prog.follows .mixedOrders = true := by kernel_rfl
theorem E0_ok : EnvOK Tryz.prog E0 := { tab _ with nat := fun f g h => (by cases h), mixed := mixed }
end KX
