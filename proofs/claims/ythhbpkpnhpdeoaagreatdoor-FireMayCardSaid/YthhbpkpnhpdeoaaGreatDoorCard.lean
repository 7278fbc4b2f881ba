/-
  FireMay: whatever the input, the call returns true and each argument reads behind it as it read before: the tied card. No condition beyond the card's own.
-/
import Derived.Test.YthhbpkpnhpdeoaaGreatDoorCards
import Derived.Test.YthhbpkpnhpdeoaaGreatDoorTieC
import Derived.Test.YthhbpkpnhpdeoaaGreatDoorKRowC
import Derived.Test.YthhbpkpnhpdeoaaGreatDoorKAw
namespace Go.Proofs.YthhbpkpnhpdeoaaGreatDoor
open Go
theorem fireMay_holds : Rows.FireMaySaid := holds_of (fun _ hw => KX.awake_calls hw)
theorem card_wf : Rows.fireMayRow.wfByText (OpenSpec.ofChange Rows.fireMaySpec) = true := by kernel_rfl
theorem card_main : Tryz.prog.mainIs = some (true, "49558ff849684f67a25882ac42d546054a8a4e3f0b32256b7a857a3251720c18".toList) := by kernel_rfl
theorem card_looks : true = Tryz.prog.looks [] := by kernel_rfl
theorem card_named : Tryz.prog.funcNamed "justiciar/justiciarlaw13.FireMay" = some 3 := by kernel_rfl
theorem card_plain : ([22, 9, 9].all fun u => !Tryz.prog.wantsStandIn u) = true := by kernel_rfl
theorem goes_reached : (reached.any fun g => (Tryz.prog.funcs[g]?).any Func.goes) = false := by kernel_rfl
theorem goes_all : Tryz.prog.funcs.any Func.goes = false := by kernel_rfl
theorem goes3 : Tryz.prog.goes 3 = false := by
  unfold Program.goes
  rw [closure_is, goes_reached, goes_all, Bool.and_false, Bool.or_false]
theorem goes_from {P : Program} {s : String} {f : FuncId} (h : P.funcNamed s = some f) (hg : P.goes f = false) : P.goesFrom s = false := by
  unfold Program.goesFrom
  rw [h]
  exact hg
theorem goes_by {P : Program} {c : OpenClaim} {f : FuncId} (hs : c.start = .entering) (h : P.funcNamed c.func = some f) (hg : P.goes f = false) : false = c.goesBy P := by
  unfold OpenClaim.goesBy Program.goesAt
  rw [goes_from h hg, hs]
  rfl
theorem card_goes : false = Rows.fireMayRow.goesBy Tryz.prog := goes_by rfl card_named goes3
theorem fireMay_card : Rows.FireMayCardSaid :=
  Claim7.holds_tied_plain_at .later [] [.data, .data, .data, .data, .pinned, .data, .pinned, .sentinel, .sentinel] true (true, "49558ff849684f67a25882ac42d546054a8a4e3f0b32256b7a857a3251720c18") true
    fireMay_holds (fun _ h => by cases h) card_wf (fun _ h => by cases h) fireMay_row_tie rfl ⟨rfl, rfl⟩ card_main rfl
    (fun f fn hf hfn => by
      obtain rfl : f = 3 := Option.some.inj (card_named.symm.trans hf) |>.symm
      obtain rfl : fn = Tryz.f3 := (Option.some.inj (Tryz.func3.symm.trans hfn)).symm
      exact ⟨card_looks, fun j t ht => by
        rw [Tryz.params3] at ht
        have hm : t ∈ [22, 9, 9] := by simpa using Array.mem_of_getElem? ht
        exact (show Tryz.prog.wantsStandIn t = false by simpa using List.all_eq_true.1 card_plain t hm)⟩)
    card_goes
end Go.Proofs.YthhbpkpnhpdeoaaGreatDoor
