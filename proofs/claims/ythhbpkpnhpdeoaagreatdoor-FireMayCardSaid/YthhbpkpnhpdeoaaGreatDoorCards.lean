/-
  DERIVED. GIVEN WITH THE SEED: THE CARDS: each row of YthhbpkpnhpdeoaaGreatDoorRows.lean that lists a variable, with what it lists TIED to the program's text (the seventh form; the later family's looks); each row that meets fmt, with fmt's text TOLD by the authors' own Lean function (tested against real Go, not proved from fmt's source: count such statements apart). THE CARD IS WHAT COUNTS. Prove the row's statement (the work); the ties are given (YthhbpkpnhpdeoaaGreatDoorTie.lean); close each card by the builder's one call (the guide's Derived/Test/ToyasCard.lean, 'card_holds'). Laid BY PROGRAM, IN A SANDBOX (cutbox-door.mjs). By AI agents, Wed Nov 11 2026. No macro, syntax, notation, axiom, sorry.
-/
import Derived.Test.YthhbpkpnhpdeoaaGreatDoorRows
import GoSem.ClaimSeven
namespace Go.Proofs.YthhbpkpnhpdeoaaGreatDoor
namespace Rows

/-- THE TIED CARD OF 'justiciarlaw13.FireMay'. -/
def fireMayCard : Claim7 := { stood := { row := fireMayRow, standIns := [], harness := (true, "49558ff849684f67a25882ac42d546054a8a4e3f0b32256b7a857a3251720c18"), looks := true }, kinds := [], alts := [], laidByText := true, laidKinds := [.data, .data, .data, .data, .pinned, .data, .pinned, .sentinel, .sentinel], laidTests := true, laidLooks := .later }
def FireMayCardSaid : Prop := Claim7.holds Tryz.pinned (.plain (OpenSpec.ofChange fireMaySpec)) fireMayCard

/-- THE SECOND FORM's CARD OF 'justiciarlaw13.FireMay'. -/
def fireMayUptoCard : Claim7 := { stood := { row := fireMayUptoRow, standIns := [], harness := (true, "49558ff849684f67a25882ac42d546054a8a4e3f0b32256b7a857a3251720c18"), looks := true }, kinds := [], alts := [], laidByText := true, laidKinds := [.data, .data, .data, .data, .pinned, .data, .pinned, .sentinel, .sentinel], laidTests := true, laidLooks := .later }
def FireMayUptoCardSaid : Prop := Claim7.holds Tryz.pinned (.plain (OpenSpec.upto fireMaySpec)) fireMayUptoCard
end Rows
end Go.Proofs.YthhbpkpnhpdeoaaGreatDoor
