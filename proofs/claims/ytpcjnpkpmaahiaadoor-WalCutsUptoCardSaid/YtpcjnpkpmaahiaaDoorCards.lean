/-
  DERIVED. GIVEN WITH THE SEED: THE CARDS: each row of YtpcjnpkpmaahiaaDoorRows.lean that lists a variable, with what it lists TIED to the program's text (the seventh form; the later family's looks); each row that meets fmt, with fmt's text TOLD by the authors' own Lean function (tested against real Go, not proved from fmt's source: count such statements apart). THE CARD IS WHAT COUNTS. Prove the row's statement (the work); the ties are given (YtpcjnpkpmaahiaaDoorTie.lean); close each card by the builder's one call (the guide's Derived/Test/ToyasCard.lean, 'card_holds'). Laid BY PROGRAM, IN A SANDBOX (cutbox-door.mjs). By AI agents, Wed Nov 11 2026. No macro, syntax, notation, axiom, sorry.
-/
import Derived.Test.YtpcjnpkpmaahiaaDoorRows
import GoSem.ClaimSeven
namespace Go.Proofs.YtpcjnpkpmaahiaaDoor
namespace Rows

/-- THE TIED CARD OF 'belfrylaw07.WalFrames'. -/
def walFramesCard : Claim7 := { stood := { row := walFramesRow, standIns := [], harness := (true, "7f91150a15a5e306b7b442b708322707755d06a2efe2b3a7415da7a87942d224"), looks := true }, kinds := [], alts := [], laidByText := true, laidKinds := [.handle, .sentinel], laidTests := true, laidLooks := .later }
def WalFramesCardSaid : Prop := Claim7.holds Tryd.pinned (.plain (OpenSpec.ofChange walFramesSpec)) walFramesCard

/-- THE TIED CARD OF 'belfrylaw07.WalCuts'. -/
def walCutsCard : Claim7 := { stood := { row := walCutsRow, standIns := [], harness := (true, "7f91150a15a5e306b7b442b708322707755d06a2efe2b3a7415da7a87942d224"), looks := true }, kinds := [], alts := [], laidByText := true, laidKinds := [.handle, .sentinel], laidTests := true, laidLooks := .later }
def WalCutsCardSaid : Prop := Claim7.holds Tryd.pinned (.plain (OpenSpec.ofChange walCutsSpec)) walCutsCard

/-- THE TIED CARD OF 'belfrylaw07.WalNil'. -/
def walNilCard : Claim7 := { stood := { row := walNilRow, standIns := [], harness := (true, "7f91150a15a5e306b7b442b708322707755d06a2efe2b3a7415da7a87942d224"), looks := true }, kinds := [], alts := [], laidByText := true, laidKinds := [.handle, .sentinel], laidTests := true, laidLooks := .later }
def WalNilCardSaid : Prop := Claim7.holds Tryd.pinned (.plain (OpenSpec.ofChange walNilSpec)) walNilCard

/-- THE SECOND FORM's CARD OF 'belfrylaw07.WalFrames'. -/
def walFramesUptoCard : Claim7 := { stood := { row := walFramesUptoRow, standIns := [], harness := (true, "7f91150a15a5e306b7b442b708322707755d06a2efe2b3a7415da7a87942d224"), looks := true }, kinds := [], alts := [], laidByText := true, laidKinds := [.handle, .sentinel], laidTests := true, laidLooks := .later }
def WalFramesUptoCardSaid : Prop := Claim7.holds Tryd.pinned (.plain (OpenSpec.upto walFramesSpec)) walFramesUptoCard

/-- THE SECOND FORM's CARD OF 'belfrylaw07.WalCuts'. -/
def walCutsUptoCard : Claim7 := { stood := { row := walCutsUptoRow, standIns := [], harness := (true, "7f91150a15a5e306b7b442b708322707755d06a2efe2b3a7415da7a87942d224"), looks := true }, kinds := [], alts := [], laidByText := true, laidKinds := [.handle, .sentinel], laidTests := true, laidLooks := .later }
def WalCutsUptoCardSaid : Prop := Claim7.holds Tryd.pinned (.plain (OpenSpec.upto walCutsSpec)) walCutsUptoCard

/-- THE SECOND FORM's CARD OF 'belfrylaw07.WalNil'. -/
def walNilUptoCard : Claim7 := { stood := { row := walNilUptoRow, standIns := [], harness := (true, "7f91150a15a5e306b7b442b708322707755d06a2efe2b3a7415da7a87942d224"), looks := true }, kinds := [], alts := [], laidByText := true, laidKinds := [.handle, .sentinel], laidTests := true, laidLooks := .later }
def WalNilUptoCardSaid : Prop := Claim7.holds Tryd.pinned (.plain (OpenSpec.upto walNilSpec)) walNilUptoCard
end Rows
end Go.Proofs.YtpcjnpkpmaahiaaDoor
