/-
  A part of the proof of FireMay: KW3. No condition.
-/
import Derived.Test.YthhbpkpnhpdeoaaGreatDoorKEnvX
namespace KX
open Go Go.Ev Go.Proofs
theorem w_t (nx : Nat) : runCall E0 100000 154 [.string (ofL [116])] ⟨.nil, nx⟩ = some (.bool false, ⟨.nil, nx⟩) := by kernel_rfl
theorem w_on (nx : Nat) : runCall E0 100000 154 [.string (ofL [111, 110])] ⟨.nil, nx⟩ = some (.bool true, ⟨.nil, nx⟩) := by kernel_rfl
theorem w_new (nx : Nat) : runCall E0 100000 154 [.string (ofL [110, 101, 119])] ⟨.nil, nx⟩ = some (.bool true, ⟨.nil, nx⟩) := by kernel_rfl
theorem w_each (nx : Nat) : runCall E0 100000 154 [.string (ofL [101, 97, 99, 104])] ⟨.nil, nx⟩ = some (.bool true, ⟨.nil, nx⟩) := by kernel_rfl
end KX
