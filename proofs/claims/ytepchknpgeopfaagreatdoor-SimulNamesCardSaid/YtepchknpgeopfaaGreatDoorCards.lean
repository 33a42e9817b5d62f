/-
  DERIVED. GIVEN WITH THE SEED: THE CARDS: each row of YtepchknpgeopfaaGreatDoorRows.lean that lists a variable, with what it lists TIED to the program's text (the seventh form; the later family's looks); each row that meets fmt, with fmt's text TOLD by the authors' own Lean function (tested against real Go, not proved from fmt's source: count such statements apart). THE CARD IS WHAT COUNTS. Prove the row's statement (the work); the ties are given (YtepchknpgeopfaaGreatDoorTie.lean); close each card by the builder's one call (the guide's Derived/Test/ToyasCard.lean, 'card_holds'). Laid BY PROGRAM, IN A SANDBOX (cutbox-door.mjs). By AI agents, Wed Nov 11 2026. No macro, syntax, notation, axiom, sorry.
-/
import Derived.Test.YtepchknpgeopfaaGreatDoorRows
import GoSem.ClaimSeven
namespace Go.Proofs.YtepchknpgeopfaaGreatDoor
namespace Rows

/-- THE TIED CARD OF 'locklesslaw22.SimulNames'. -/
def simulNamesCard : Claim7 := { stood := { row := simulNamesRow, standIns := [], harness := (true, "d26dc49ef82ec5798b73a50f52d489444b5fd342497dd2887d10aec58ad0ab82"), looks := true }, kinds := [], alts := [], laidByText := true, laidKinds := [.data, .data, .data, .data, .sentinel, .sentinel, .pinned], laidTests := true, laidLooks := .later }
def SimulNamesCardSaid : Prop := Claim7.holds Tryz.pinned (.plain (OpenSpec.ofChange simulNamesSpec)) simulNamesCard

/-- THE SECOND FORM's CARD OF 'locklesslaw22.SimulNames'. -/
def simulNamesUptoCard : Claim7 := { stood := { row := simulNamesUptoRow, standIns := [], harness := (true, "d26dc49ef82ec5798b73a50f52d489444b5fd342497dd2887d10aec58ad0ab82"), looks := true }, kinds := [], alts := [], laidByText := true, laidKinds := [.data, .data, .data, .data, .sentinel, .sentinel, .pinned], laidTests := true, laidLooks := .later }
def SimulNamesUptoCardSaid : Prop := Claim7.holds Tryz.pinned (.plain (OpenSpec.upto simulNamesSpec)) simulNamesUptoCard
end Rows
end Go.Proofs.YtepchknpgeopfaaGreatDoor
