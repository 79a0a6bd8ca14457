/-
  DERIVED. GIVEN WITH THE SEED: THE CARDS: each row of YtgnmhonbcejnfaaGreatDoorRows.lean that lists a variable, with what it lists TIED to the program's text (the seventh form; the later family's looks); each row that meets fmt, with fmt's text TOLD by the authors' own Lean function (tested against real Go, not proved from fmt's source: count such statements apart). THE CARD IS WHAT COUNTS. Prove the row's statement (the work); the ties are given (YtgnmhonbcejnfaaGreatDoorTie.lean); close each card by the builder's one call (the guide's Derived/Test/ToyasCard.lean, 'card_holds'). Laid BY PROGRAM, IN A SANDBOX (cutbox-door.mjs). By AI agents, Wed Nov 11 2026. No macro, syntax, notation, axiom, sorry.
-/
import Derived.Test.YtgnmhonbcejnfaaGreatDoorRows
import GoSem.ClaimSeven
namespace Go.Proofs.YtgnmhonbcejnfaaGreatDoor
namespace Rows

/-- THE TIED CARD OF 'belfrylaw06.DiskCopies'. -/
def diskCopiesCard : Claim7 := { stood := { row := diskCopiesRow, standIns := [], harness := (true, "69105a97edb9274690c294aed779d28f263fe7223b6b8a7d10f82a50ecfd7601"), looks := true }, kinds := [], alts := [], laidByText := true, laidKinds := [.handle, .sentinel], laidTests := true, laidLooks := .later }
def DiskCopiesCardSaid : Prop := Claim7.holds Tryz.pinned (.plain (OpenSpec.ofChange diskCopiesSpec)) diskCopiesCard

/-- THE SECOND FORM's CARD OF 'belfrylaw06.DiskCopies'. -/
def diskCopiesUptoCard : Claim7 := { stood := { row := diskCopiesUptoRow, standIns := [], harness := (true, "69105a97edb9274690c294aed779d28f263fe7223b6b8a7d10f82a50ecfd7601"), looks := true }, kinds := [], alts := [], laidByText := true, laidKinds := [.handle, .sentinel], laidTests := true, laidLooks := .later }
def DiskCopiesUptoCardSaid : Prop := Claim7.holds Tryz.pinned (.plain (OpenSpec.upto diskCopiesSpec)) diskCopiesUptoCard
end Rows
end Go.Proofs.YtgnmhonbcejnfaaGreatDoor
