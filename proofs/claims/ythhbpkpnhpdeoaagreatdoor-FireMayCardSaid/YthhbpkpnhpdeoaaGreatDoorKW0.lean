/-
  A part of the proof of FireMay: KW0. No condition.
-/
import Derived.Test.YthhbpkpnhpdeoaaGreatDoorKEnvX
namespace KX
open Go Go.Ev Go.Proofs
theorem w_a (nx : Nat) : runCall E0 100000 154 [.string (ofL [97])] ⟨.nil, nx⟩ = some (.bool false, ⟨.nil, nx⟩) := by kernel_rfl
theorem w_trigger (nx : Nat) : runCall E0 100000 154 [.string (ofL [116, 114, 105, 103, 103, 101, 114])] ⟨.nil, nx⟩ = some (.bool true, ⟨.nil, nx⟩) := by kernel_rfl
theorem w_for (nx : Nat) : runCall E0 100000 154 [.string (ofL [102, 111, 114])] ⟨.nil, nx⟩ = some (.bool true, ⟨.nil, nx⟩) := by kernel_rfl
theorem w_begin (nx : Nat) : runCall E0 100000 154 [.string (ofL [98, 101, 103, 105, 110])] ⟨.nil, nx⟩ = some (.bool true, ⟨.nil, nx⟩) := by kernel_rfl
end KX
