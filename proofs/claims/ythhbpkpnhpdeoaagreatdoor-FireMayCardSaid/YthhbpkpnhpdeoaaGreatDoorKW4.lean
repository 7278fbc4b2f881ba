/-
  A part of the proof of FireMay: KW4. No condition.
-/
import Derived.Test.YthhbpkpnhpdeoaaGreatDoorKEnvX
namespace KX
open Go Go.Ev Go.Proofs
theorem w_u (nx : Nat) : runCall E0 100000 154 [.string (ofL [117])] ⟨.nil, nx⟩ = some (.bool false, ⟨.nil, nx⟩) := by kernel_rfl
theorem w_old (nx : Nat) : runCall E0 100000 154 [.string (ofL [111, 108, 100])] ⟨.nil, nx⟩ = some (.bool true, ⟨.nil, nx⟩) := by kernel_rfl
theorem w_of (nx : Nat) : runCall E0 100000 154 [.string (ofL [111, 102])] ⟨.nil, nx⟩ = some (.bool true, ⟨.nil, nx⟩) := by kernel_rfl
theorem w_create (nx : Nat) : runCall E0 100000 154 [.string (ofL [99, 114, 101, 97, 116, 101])] ⟨.nil, nx⟩ = some (.bool true, ⟨.nil, nx⟩) := by kernel_rfl
end KX
