/-
  No cell of these rows narrows 'for every input' (looked for: loops, veiled, ifaces, maps, wideKeys, modest, calm, conditions, laid).
  DERIVED. THE GIVEN ROWS OF THIS SEAT. 6 by the template 'for every input the law returns true; each argument reads behind the call as it read before'; 0 by the template 'total and deterministic' (their statements: YtnnljhcpkkpniaaTotals.lean).
  GIVEN WITH THE SEED: the statements are not yours to turn. If you find one false, say at which input.
  Laid BY PROGRAM, IN A SANDBOX (cutbox-rows.mjs): the forced cells as the released guide's own fill.sh prints them over the translation 539963c904468565… (all of the seat's roots in one cut). By AI agents, Wed Nov 11 2026. No macro, syntax, notation, axiom, sorry.
-/
import Derived.Test.YtnnljhcpkkpniaaChecked
import GoSem.Claim
import GoSem.ClaimJoined
import GoSem.ClaimMapViews
import Derived.JoinedTies
import Derived.KernelRfl
namespace Go.Proofs.Ytnnljhcpkkpniaa
/- THE CELL 'sum', in the pinned program and in every row, IS THE sha256 OF THE DUMP (.gsa) THAT YtnnljhcpkkpniaaProg.lean LOADS. Nothing in Lean hashes anything: it is a label: what it is worth is what the hold of that sum in a sandbox is worth. -/
noncomputable def Try.pinned : Pinned := { name := "ytnnljhcpkkpniaa", sum := "539963c904468565a277e20ab97d25b90871834a76ce2c0d404f8d80e5ccde2a", checked := Try.checked }
namespace Rows
def none {H : Type} : Left H := { results := [], args := [] }

/-- 'belfrylaw20.FairServes': WHATEVER THE INPUT: true; the input reads as it did. -/
def fairServesSpec : ChangeSpec := { name := "fairServes", fn := fun _ => fun
  | [d] => { results := [.lit (.bool true)], args := [d] }
  | _ => none }
def fairServesRow : OpenClaim := { program := "ytnnljhcpkkpniaa", sum := "539963c904468565a277e20ab97d25b90871834a76ce2c0d404f8d80e5ccde2a", func := "belfry/belfrylaw20.FairServes", spec := "fairServes", unfollowed := true, recurses := true, apart := false }
def FairServesSaid : Prop := fairServesRow.holds Try.pinned (OpenSpec.ofChange fairServesSpec)

/-- ITS FALSE NEIGHBOUR: 'it returns false'. Refute it at one input. -/
def fairServesWrong : ChangeSpec := { name := "fairServes", fn := fun _ => fun
  | [d] => { results := [.lit (.bool false)], args := [d] }
  | _ => none }
def FairServesWrongFalsely : Prop := fairServesRow.holds Try.pinned (OpenSpec.ofChange fairServesWrong)

/-- 'belfrylaw20.FairShares': WHATEVER THE INPUT: true; the input reads as it did. -/
def fairSharesSpec : ChangeSpec := { name := "fairShares", fn := fun _ => fun
  | [d1, d2, d3] => { results := [.lit (.bool true)], args := [d1, d2, d3] }
  | _ => none }
def fairSharesRow : OpenClaim := { program := "ytnnljhcpkkpniaa", sum := "539963c904468565a277e20ab97d25b90871834a76ce2c0d404f8d80e5ccde2a", func := "belfry/belfrylaw20.FairShares", spec := "fairShares", unfollowed := true, recurses := true, apart := false }
def FairSharesSaid : Prop := fairSharesRow.holds Try.pinned (OpenSpec.ofChange fairSharesSpec)

/-- ITS FALSE NEIGHBOUR: 'it returns false'. Refute it at one input. -/
def fairSharesWrong : ChangeSpec := { name := "fairShares", fn := fun _ => fun
  | [d1, d2, d3] => { results := [.lit (.bool false)], args := [d1, d2, d3] }
  | _ => none }
def FairSharesWrongFalsely : Prop := fairSharesRow.holds Try.pinned (OpenSpec.ofChange fairSharesWrong)

/-- 'belfrylaw20.FairQueues': WHATEVER THE INPUT: true; the input reads as it did. -/
def fairQueuesSpec : ChangeSpec := { name := "fairQueues", fn := fun _ => fun
  | [d1, d2] => { results := [.lit (.bool true)], args := [d1, d2] }
  | _ => none }
def fairQueuesRow : OpenClaim := { program := "ytnnljhcpkkpniaa", sum := "539963c904468565a277e20ab97d25b90871834a76ce2c0d404f8d80e5ccde2a", func := "belfry/belfrylaw20.FairQueues", spec := "fairQueues", unfollowed := true, recurses := true, apart := false }
def FairQueuesSaid : Prop := fairQueuesRow.holds Try.pinned (OpenSpec.ofChange fairQueuesSpec)

/-- ITS FALSE NEIGHBOUR: 'it returns false'. Refute it at one input. -/
def fairQueuesWrong : ChangeSpec := { name := "fairQueues", fn := fun _ => fun
  | [d1, d2] => { results := [.lit (.bool false)], args := [d1, d2] }
  | _ => none }
def FairQueuesWrongFalsely : Prop := fairQueuesRow.holds Try.pinned (OpenSpec.ofChange fairQueuesWrong)

/-- 'belfrylaw20.FairTurns': WHATEVER THE INPUT: true; the input reads as it did. -/
def fairTurnsSpec : ChangeSpec := { name := "fairTurns", fn := fun _ => fun
  | [d1, d2, d3, d4] => { results := [.lit (.bool true)], args := [d1, d2, d3, d4] }
  | _ => none }
def fairTurnsRow : OpenClaim := { program := "ytnnljhcpkkpniaa", sum := "539963c904468565a277e20ab97d25b90871834a76ce2c0d404f8d80e5ccde2a", func := "belfry/belfrylaw20.FairTurns", spec := "fairTurns", unfollowed := true, recurses := true, apart := false }
def FairTurnsSaid : Prop := fairTurnsRow.holds Try.pinned (OpenSpec.ofChange fairTurnsSpec)

/-- ITS FALSE NEIGHBOUR: 'it returns false'. Refute it at one input. -/
def fairTurnsWrong : ChangeSpec := { name := "fairTurns", fn := fun _ => fun
  | [d1, d2, d3, d4] => { results := [.lit (.bool false)], args := [d1, d2, d3, d4] }
  | _ => none }
def FairTurnsWrongFalsely : Prop := fairTurnsRow.holds Try.pinned (OpenSpec.ofChange fairTurnsWrong)

/-- 'belfrylaw20.FairPlays': WHATEVER THE INPUT: true; the input reads as it did. -/
def fairPlaysSpec : ChangeSpec := { name := "fairPlays", fn := fun _ => fun
  | [d] => { results := [.lit (.bool true)], args := [d] }
  | _ => none }
def fairPlaysRow : OpenClaim := { program := "ytnnljhcpkkpniaa", sum := "539963c904468565a277e20ab97d25b90871834a76ce2c0d404f8d80e5ccde2a", func := "belfry/belfrylaw20.FairPlays", spec := "fairPlays", unfollowed := true, recurses := true, apart := false }
def FairPlaysSaid : Prop := fairPlaysRow.holds Try.pinned (OpenSpec.ofChange fairPlaysSpec)

/-- ITS FALSE NEIGHBOUR: 'it returns false'. Refute it at one input. -/
def fairPlaysWrong : ChangeSpec := { name := "fairPlays", fn := fun _ => fun
  | [d] => { results := [.lit (.bool false)], args := [d] }
  | _ => none }
def FairPlaysWrongFalsely : Prop := fairPlaysRow.holds Try.pinned (OpenSpec.ofChange fairPlaysWrong)

/-- 'belfrylaw20.FairNil': WHATEVER THE INPUT: true; the input reads as it did. -/
def fairNilSpec : ChangeSpec := { name := "fairNil", fn := fun _ => fun
  | [d] => { results := [.lit (.bool true)], args := [d] }
  | _ => none }
def fairNilRow : OpenClaim := { program := "ytnnljhcpkkpniaa", sum := "539963c904468565a277e20ab97d25b90871834a76ce2c0d404f8d80e5ccde2a", func := "belfry/belfrylaw20.FairNil", spec := "fairNil", unfollowed := true, recurses := true, apart := false }
def FairNilSaid : Prop := fairNilRow.holds Try.pinned (OpenSpec.ofChange fairNilSpec)

/-- ITS FALSE NEIGHBOUR: 'it returns false'. Refute it at one input. -/
def fairNilWrong : ChangeSpec := { name := "fairNil", fn := fun _ => fun
  | [d] => { results := [.lit (.bool false)], args := [d] }
  | _ => none }
def FairNilWrongFalsely : Prop := fairNilRow.holds Try.pinned (OpenSpec.ofChange fairNilWrong)

/- THE SECOND FORM. 'bulk': how many values and letters a reading holds, each counted each time it is reached (what is shared counts as often as it is met; a slice's spare places count too). A statement '..UptoSaid' is the law's where the arguments, and the package variables that the reading takes, are together of bulk at most 1048576: NARROWER than '..Said'. Prove '..Said' where nothing that the law and all that it calls make is longer than what came in: it says more and counts as full. Else prove '..UptoSaid'. A law counts once. -/
mutual
def uptoBulk {H : Type} : DataW H → Nat
  | .lit (.string bytes) => bytes.length + 1
  | .lit _ => 1
  | .nil => 1
  | .ptr d => uptoBulk d + 1
  | .slice elems spare => uptoBulkAll elems + uptoBulkAll spare + 1
  | .agg parts => uptoBulkAll parts + 1
  | .iface _ d => uptoBulk d + 1
  | .map entries => uptoBulkEntries entries + 1
  | .held _ => 1
def uptoBulkAll {H : Type} : List (DataW H) → Nat
  | [] => 0
  | d :: r => uptoBulk d + uptoBulkAll r
def uptoBulkEntries {H : Type} : List (Lit × DataW H) → Nat
  | [] => 0
  | x :: r => uptoBulkEntry x + uptoBulkEntries r
def uptoBulkEntry {H : Type} : Lit × DataW H → Nat
  | (.string bytes, d) => bytes.length + uptoBulk d + 1
  | (_, d) => uptoBulk d + 1
 end
def uptoSmall : (H : Type) → List (DataW H) → Bool := fun _ ds => decide (uptoBulkAll ds ≤ 1048576)
def OpenSpec.upto (s : _root_.Go.ChangeSpec) : _root_.Go.OpenSpec := { _root_.Go.OpenSpec.ofChange s with cond := some uptoSmall }

/-- 'belfrylaw20.FairServes', WHERE WHAT IT READS IS OF BULK AT MOST 1048576: true; the input reads as it did. -/
def fairServesUptoRow : OpenClaim := { program := "ytnnljhcpkkpniaa", sum := "539963c904468565a277e20ab97d25b90871834a76ce2c0d404f8d80e5ccde2a", func := "belfry/belfrylaw20.FairServes", spec := "fairServes", unfollowed := true, recurses := true, apart := false, narrowed := true }
def FairServesUptoSaid : Prop := fairServesUptoRow.holds Try.pinned (OpenSpec.upto fairServesSpec)

/-- 'belfrylaw20.FairShares', WHERE WHAT IT READS IS OF BULK AT MOST 1048576: true; the input reads as it did. -/
def fairSharesUptoRow : OpenClaim := { program := "ytnnljhcpkkpniaa", sum := "539963c904468565a277e20ab97d25b90871834a76ce2c0d404f8d80e5ccde2a", func := "belfry/belfrylaw20.FairShares", spec := "fairShares", unfollowed := true, recurses := true, apart := false, narrowed := true }
def FairSharesUptoSaid : Prop := fairSharesUptoRow.holds Try.pinned (OpenSpec.upto fairSharesSpec)

/-- 'belfrylaw20.FairQueues', WHERE WHAT IT READS IS OF BULK AT MOST 1048576: true; the input reads as it did. -/
def fairQueuesUptoRow : OpenClaim := { program := "ytnnljhcpkkpniaa", sum := "539963c904468565a277e20ab97d25b90871834a76ce2c0d404f8d80e5ccde2a", func := "belfry/belfrylaw20.FairQueues", spec := "fairQueues", unfollowed := true, recurses := true, apart := false, narrowed := true }
def FairQueuesUptoSaid : Prop := fairQueuesUptoRow.holds Try.pinned (OpenSpec.upto fairQueuesSpec)

/-- 'belfrylaw20.FairTurns', WHERE WHAT IT READS IS OF BULK AT MOST 1048576: true; the input reads as it did. -/
def fairTurnsUptoRow : OpenClaim := { program := "ytnnljhcpkkpniaa", sum := "539963c904468565a277e20ab97d25b90871834a76ce2c0d404f8d80e5ccde2a", func := "belfry/belfrylaw20.FairTurns", spec := "fairTurns", unfollowed := true, recurses := true, apart := false, narrowed := true }
def FairTurnsUptoSaid : Prop := fairTurnsUptoRow.holds Try.pinned (OpenSpec.upto fairTurnsSpec)

/-- 'belfrylaw20.FairPlays', WHERE WHAT IT READS IS OF BULK AT MOST 1048576: true; the input reads as it did. -/
def fairPlaysUptoRow : OpenClaim := { program := "ytnnljhcpkkpniaa", sum := "539963c904468565a277e20ab97d25b90871834a76ce2c0d404f8d80e5ccde2a", func := "belfry/belfrylaw20.FairPlays", spec := "fairPlays", unfollowed := true, recurses := true, apart := false, narrowed := true }
def FairPlaysUptoSaid : Prop := fairPlaysUptoRow.holds Try.pinned (OpenSpec.upto fairPlaysSpec)

/-- 'belfrylaw20.FairNil', WHERE WHAT IT READS IS OF BULK AT MOST 1048576: true; the input reads as it did. -/
def fairNilUptoRow : OpenClaim := { program := "ytnnljhcpkkpniaa", sum := "539963c904468565a277e20ab97d25b90871834a76ce2c0d404f8d80e5ccde2a", func := "belfry/belfrylaw20.FairNil", spec := "fairNil", unfollowed := true, recurses := true, apart := false, narrowed := true }
def FairNilUptoSaid : Prop := fairNilUptoRow.holds Try.pinned (OpenSpec.upto fairNilSpec)

end Rows
end Go.Proofs.Ytnnljhcpkkpniaa
