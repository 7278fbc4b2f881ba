/-
  The row's tie, second part: what the laying of the variables comes to. No condition.
-/
import Derived.Test.YthhbpkpnhpdeoaaGreatDoorTieA
namespace Go.Proofs.YthhbpkpnhpdeoaaGreatDoor
open Go
theorem tie_d : ∀ os tape, varsDone Tryz.prog 400 (varsId Tryz.prog) os tape = true := fun _ _ => by kernel_rfl
theorem tie_1 : ∀ os tape, (DataW.laidRun Tryz.prog (varsWorld Tryz.prog 400 (varsId Tryz.prog) os tape).memory 8 (laid7.map (·.1))).map (·.1) = some laid7 := fun _ _ => by kernel_rfl
theorem tie_2 : ∀ os tape, (DataW.laidRun Tryz.prog (varsWorld Tryz.prog 400 (varsId Tryz.prog) os tape).memory 8 (laid7.map (·.1))).map (fun x => decide x.2.Nodup && laidRowsB Tryz.prog (varsWorld Tryz.prog 400 (varsId Tryz.prog) os tape).memory x.2) = some true := fun _ _ => by kernel_rfl
theorem tie7 : Tryz.prog.laidByTextLater laid7 [.data, .data, .data, .data, .data, .sentinel, .sentinel] true :=
  Program.laidByTextLater_by_run 400 8 tie_w tie_w' tie_root tie_k tie_g tie_n tie_d tie_1 tie_2
end Go.Proofs.YthhbpkpnhpdeoaaGreatDoor
