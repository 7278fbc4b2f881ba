/-
  A part of the proof of FireMay: KW5. No condition.
-/
import Derived.Test.YthhbpkpnhpdeoaaGreatDoorKEnvX
namespace KX
open Go Go.Ev Go.Proofs
theorem w_when (nx : Nat) : runCall E0 100000 154 [.string (ofL [119, 104, 101, 110])] ⟨.nil, nx⟩ = some (.bool true, ⟨.nil, nx⟩) := by kernel_rfl
theorem w_update (nx : Nat) : runCall E0 100000 154 [.string (ofL [117, 112, 100, 97, 116, 101])] ⟨.nil, nx⟩ = some (.bool true, ⟨.nil, nx⟩) := by kernel_rfl
theorem w_end (nx : Nat) : runCall E0 100000 154 [.string (ofL [101, 110, 100])] ⟨.nil, nx⟩ = some (.bool true, ⟨.nil, nx⟩) := by kernel_rfl
theorem w_delete (nx : Nat) : runCall E0 100000 154 [.string (ofL [100, 101, 108, 101, 116, 101])] ⟨.nil, nx⟩ = some (.bool true, ⟨.nil, nx⟩) := by kernel_rfl
end KX
