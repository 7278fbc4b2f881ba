/-
  A part of the proof of FireMay: KW2. No condition.
-/
import Derived.Test.YthhbpkpnhpdeoaaGreatDoorKEnvX
namespace KX
open Go Go.Ev Go.Proofs
theorem w_r (nx : Nat) : runCall E0 100000 154 [.string (ofL [114])] ⟨.nil, nx⟩ = some (.bool false, ⟨.nil, nx⟩) := by kernel_rfl
theorem w_row (nx : Nat) : runCall E0 100000 154 [.string (ofL [114, 111, 119])] ⟨.nil, nx⟩ = some (.bool true, ⟨.nil, nx⟩) := by kernel_rfl
theorem w_int (nx : Nat) : runCall E0 100000 154 [.string (ofL [105, 110, 116])] ⟨.nil, nx⟩ = some (.bool true, ⟨.nil, nx⟩) := by kernel_rfl
theorem w_before (nx : Nat) : runCall E0 100000 154 [.string (ofL [98, 101, 102, 111, 114, 101])] ⟨.nil, nx⟩ = some (.bool true, ⟨.nil, nx⟩) := by kernel_rfl
end KX
