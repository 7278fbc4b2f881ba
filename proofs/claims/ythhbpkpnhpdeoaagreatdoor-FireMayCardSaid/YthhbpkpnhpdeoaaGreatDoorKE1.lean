/-
  A part of the proof of FireMay: KE1. No condition.
-/
import Derived.Test.YthhbpkpnhpdeoaaGreatDoorKW0
import Derived.Test.YthhbpkpnhpdeoaaGreatDoorKW1
import Derived.Test.YthhbpkpnhpdeoaaGreatDoorKW2
import Derived.Test.YthhbpkpnhpdeoaaGreatDoorKW3
import Derived.Test.YthhbpkpnhpdeoaaGreatDoorKW4
import Derived.Test.YthhbpkpnhpdeoaaGreatDoorKW5
import Derived.Test.YthhbpkpnhpdeoaaGreatDoorEvOrc
namespace KX
open Go Go.Ev Go.Proofs
def WOK (l : List (List UInt8 × Bool)) : Prop := ∀ k b, (k, b) ∈ l → ∀ s, CallSound Tryz.prog 154 [.string (ofL k)] s (.bool b) s
theorem WOK.nil : WOK [] := fun _ _ h => by cases h
theorem WOK.cons {k : List UInt8} {b : Bool} {l : List (List UInt8 × Bool)} (h : ∀ nx, runCall E0 100000 154 [.string (ofL k)] ⟨.nil, nx⟩ = some (.bool b, ⟨.nil, nx⟩)) (t : WOK l) : WOK ((k, b) :: l) := by
  intro k' b' hm s
  rcases List.mem_cons.1 hm with e | hm
  · cases e
    exact CallSound.still (fun nx => runCall_sound E0_ok (h nx)) s
  · exact t k' b' hm s
noncomputable def wl : List (List UInt8 × Bool) := [([97], false), ([98], false), ([98, 101, 102, 111, 114, 101], true), ([98, 101, 103, 105, 110], true), ([99, 114, 101, 97, 116, 101], true), ([100, 101, 108, 101, 116, 101], true), ([101, 97, 99, 104], true), ([101, 110, 100], true), ([102, 111, 114], true), ([102, 114, 111, 109], true), ([105, 110, 116], true), ([110, 101, 119], true), ([111, 102], true), ([111, 108, 100], true), ([111, 110], true), ([114], false), ([114, 111, 119], true), ([116], false), ([116, 97, 98, 108, 101], true), ([116, 114, 105, 103, 103, 101, 114], true), ([117], false), ([117, 112, 100, 97, 116, 101], true), ([119, 104, 101, 110], true)]
theorem wl_ok : WOK wl := .cons w_a <| .cons w_b <| .cons w_before <| .cons w_begin <| .cons w_create <| .cons w_delete <| .cons w_each <| .cons w_end <| .cons w_for <| .cons w_from <| .cons w_int <| .cons w_new <| .cons w_of <| .cons w_old <| .cons w_on <| .cons w_r <| .cons w_row <| .cons w_t <| .cons w_table <| .cons w_trigger <| .cons w_u <| .cons w_update <| .cons w_when .nil
noncomputable def nat1 (f : Nat) : Option (List Value → St → Option (Value × St)) := match Nat.beq f 154 with
  | true => some (wordN wl)
  | false => none
noncomputable def E1 : Env := ⟨ft, tt, nat1, extF⟩
theorem E1_ok : EnvOK Tryz.prog E1 := { tab _ with
  mixed := mixed
  nat := fun f g h => by
    have h : nat1 f = some g := h
    unfold nat1 at h
    split at h
    · rename_i he
      cases h
      have := Nat.eq_of_beq_eq_true he
      subst this
      exact wordN_ok wl_ok
    · cases h }
end KX
