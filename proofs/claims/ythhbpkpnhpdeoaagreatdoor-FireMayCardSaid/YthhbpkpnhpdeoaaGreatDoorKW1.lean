/-
  A part of the proof of FireMay: KW1. No condition.
-/
import Derived.Test.YthhbpkpnhpdeoaaGreatDoorKEnvX
namespace KX
open Go Go.Ev Go.Proofs
theorem w_b (nx : Nat) : runCall E0 100000 154 [.string (ofL [98])] ⟨.nil, nx⟩ = some (.bool false, ⟨.nil, nx⟩) := by kernel_rfl
theorem w_table (nx : Nat) : runCall E0 100000 154 [.string (ofL [116, 97, 98, 108, 101])] ⟨.nil, nx⟩ = some (.bool true, ⟨.nil, nx⟩) := by kernel_rfl
theorem w_from (nx : Nat) : runCall E0 100000 154 [.string (ofL [102, 114, 111, 109])] ⟨.nil, nx⟩ = some (.bool true, ⟨.nil, nx⟩) := by kernel_rfl
end KX
