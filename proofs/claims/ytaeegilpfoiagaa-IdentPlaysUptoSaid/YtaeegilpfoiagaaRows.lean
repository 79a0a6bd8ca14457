/-
  No cell of these rows narrows 'for every input' (looked for: loops, veiled, ifaces, maps, wideKeys, modest, calm, conditions, laid).
  DERIVED. THE GIVEN ROWS OF THIS SEAT. 5 by the template 'for every input the law returns true; each argument reads behind the call as it read before'; 0 by the template 'total and deterministic' (their statements: YtaeegilpfoiagaaTotals.lean).
  GIVEN WITH THE SEED: the statements are not yours to turn. If you find one false, say at which input.
  Laid BY PROGRAM, IN A SANDBOX (cutbox-rows.mjs): the forced cells as the released guide's own fill.sh prints them over the translation c19d69fde5e18533… (all of the seat's roots in one cut). By AI agents, Wed Nov 11 2026. No macro, syntax, notation, axiom, sorry.
-/
import Derived.Test.YtaeegilpfoiagaaChecked
import GoSem.Claim
import GoSem.ClaimJoined
import GoSem.ClaimMapViews
import Derived.JoinedTies
import Derived.KernelRfl
namespace Go.Proofs.Ytaeegilpfoiagaa
/- THE CELL 'sum', in the pinned program and in every row, IS THE sha256 OF THE DUMP (.gsa) THAT YtaeegilpfoiagaaProg.lean LOADS. Nothing in Lean hashes anything: it is a label: what it is worth is what the hold of that sum in a sandbox is worth. -/
noncomputable def Try.pinned : Pinned := { name := "ytaeegilpfoiagaa", sum := "c19d69fde5e18533acb596fb3c2ef173ca8d20b095d8f1a23f003bea64e8d88d", checked := Try.checked }
namespace Rows
def none {H : Type} : Left H := { results := [], args := [] }

/-- 'belfrylaw10.IdentLasts': WHATEVER THE INPUT: true; the input reads as it did. -/
def identLastsSpec : ChangeSpec := { name := "identLasts", fn := fun _ => fun
  | [d1, d2, d3, d4, d5] => { results := [.lit (.bool true)], args := [d1, d2, d3, d4, d5] }
  | _ => none }
def identLastsRow : OpenClaim := { program := "ytaeegilpfoiagaa", sum := "c19d69fde5e18533acb596fb3c2ef173ca8d20b095d8f1a23f003bea64e8d88d", func := "belfry/belfrylaw10.IdentLasts", spec := "identLasts", apart := false }
def IdentLastsSaid : Prop := identLastsRow.holds Try.pinned (OpenSpec.ofChange identLastsSpec)

/-- ITS FALSE NEIGHBOUR: 'it returns false'. Refute it at one input. -/
def identLastsWrong : ChangeSpec := { name := "identLasts", fn := fun _ => fun
  | [d1, d2, d3, d4, d5] => { results := [.lit (.bool false)], args := [d1, d2, d3, d4, d5] }
  | _ => none }
def IdentLastsWrongFalsely : Prop := identLastsRow.holds Try.pinned (OpenSpec.ofChange identLastsWrong)

/-- 'belfrylaw10.IdentNumbers': WHATEVER THE INPUT: true; the input reads as it did. -/
def identNumbersSpec : ChangeSpec := { name := "identNumbers", fn := fun _ => fun
  | [d] => { results := [.lit (.bool true)], args := [d] }
  | _ => none }
def identNumbersRow : OpenClaim := { program := "ytaeegilpfoiagaa", sum := "c19d69fde5e18533acb596fb3c2ef173ca8d20b095d8f1a23f003bea64e8d88d", func := "belfry/belfrylaw10.IdentNumbers", spec := "identNumbers", apart := false }
def IdentNumbersSaid : Prop := identNumbersRow.holds Try.pinned (OpenSpec.ofChange identNumbersSpec)

/-- ITS FALSE NEIGHBOUR: 'it returns false'. Refute it at one input. -/
def identNumbersWrong : ChangeSpec := { name := "identNumbers", fn := fun _ => fun
  | [d] => { results := [.lit (.bool false)], args := [d] }
  | _ => none }
def IdentNumbersWrongFalsely : Prop := identNumbersRow.holds Try.pinned (OpenSpec.ofChange identNumbersWrong)

/-- 'belfrylaw10.IdentReads': WHATEVER THE INPUT: true; the input reads as it did. -/
def identReadsSpec : ChangeSpec := { name := "identReads", fn := fun _ => fun
  | [d1, d2] => { results := [.lit (.bool true)], args := [d1, d2] }
  | _ => none }
def identReadsRow : OpenClaim := { program := "ytaeegilpfoiagaa", sum := "c19d69fde5e18533acb596fb3c2ef173ca8d20b095d8f1a23f003bea64e8d88d", func := "belfry/belfrylaw10.IdentReads", spec := "identReads", apart := false }
def IdentReadsSaid : Prop := identReadsRow.holds Try.pinned (OpenSpec.ofChange identReadsSpec)

/-- ITS FALSE NEIGHBOUR: 'it returns false'. Refute it at one input. -/
def identReadsWrong : ChangeSpec := { name := "identReads", fn := fun _ => fun
  | [d1, d2] => { results := [.lit (.bool false)], args := [d1, d2] }
  | _ => none }
def IdentReadsWrongFalsely : Prop := identReadsRow.holds Try.pinned (OpenSpec.ofChange identReadsWrong)

/-- 'belfrylaw10.IdentPlays': WHATEVER THE INPUT: true; the input reads as it did. -/
def identPlaysSpec : ChangeSpec := { name := "identPlays", fn := fun _ => fun
  | [d] => { results := [.lit (.bool true)], args := [d] }
  | _ => none }
def identPlaysRow : OpenClaim := { program := "ytaeegilpfoiagaa", sum := "c19d69fde5e18533acb596fb3c2ef173ca8d20b095d8f1a23f003bea64e8d88d", func := "belfry/belfrylaw10.IdentPlays", spec := "identPlays", unfollowed := true, recurses := true, apart := false }
def IdentPlaysSaid : Prop := identPlaysRow.holds Try.pinned (OpenSpec.ofChange identPlaysSpec)

/-- ITS FALSE NEIGHBOUR: 'it returns false'. Refute it at one input. -/
def identPlaysWrong : ChangeSpec := { name := "identPlays", fn := fun _ => fun
  | [d] => { results := [.lit (.bool false)], args := [d] }
  | _ => none }
def IdentPlaysWrongFalsely : Prop := identPlaysRow.holds Try.pinned (OpenSpec.ofChange identPlaysWrong)

/-- 'belfrylaw10.IdentNil': WHATEVER THE INPUT: true; the input reads as it did. -/
def identNilSpec : ChangeSpec := { name := "identNil", fn := fun _ => fun
  | [d1, d2, d3] => { results := [.lit (.bool true)], args := [d1, d2, d3] }
  | _ => none }
def identNilRow : OpenClaim := { program := "ytaeegilpfoiagaa", sum := "c19d69fde5e18533acb596fb3c2ef173ca8d20b095d8f1a23f003bea64e8d88d", func := "belfry/belfrylaw10.IdentNil", spec := "identNil", unfollowed := true, recurses := true, apart := false }
def IdentNilSaid : Prop := identNilRow.holds Try.pinned (OpenSpec.ofChange identNilSpec)

/-- ITS FALSE NEIGHBOUR: 'it returns false'. Refute it at one input. -/
def identNilWrong : ChangeSpec := { name := "identNil", fn := fun _ => fun
  | [d1, d2, d3] => { results := [.lit (.bool false)], args := [d1, d2, d3] }
  | _ => none }
def IdentNilWrongFalsely : Prop := identNilRow.holds Try.pinned (OpenSpec.ofChange identNilWrong)

/- THE SECOND FORM. 'bulk': how many values and letters a reading holds, each counted each time it is reached (what is shared counts as often as it is met; a slice's spare places count too). A statement '..UptoSaid' is the law's where the arguments, and the package variables that the reading takes, are together of bulk at most 1048576: NARROWER than '..Said'. Prove '..Said' where nothing that the law and all that it calls make is longer than what came in: it says more and counts as full. Else prove '..UptoSaid'. A law counts once. -/
mutual
def uptoBulk {H : Type} : DataW H → Nat
  | .lit (.string bytes) => bytes.length + 1
  | .lit _ => 1
  | .nil => 1
  | .ptr d => uptoBulk d + 1
  | .slice elems spare => uptoBulkAll elems + uptoBulkAll spare + 1
  | .agg parts => uptoBulkAll parts + 1
  | .iface _ d => uptoBulk d + 1
  | .map entries => uptoBulkEntries entries + 1
  | .held _ => 1
def uptoBulkAll {H : Type} : List (DataW H) → Nat
  | [] => 0
  | d :: r => uptoBulk d + uptoBulkAll r
def uptoBulkEntries {H : Type} : List (Lit × DataW H) → Nat
  | [] => 0
  | x :: r => uptoBulkEntry x + uptoBulkEntries r
def uptoBulkEntry {H : Type} : Lit × DataW H → Nat
  | (.string bytes, d) => bytes.length + uptoBulk d + 1
  | (_, d) => uptoBulk d + 1
 end
def uptoSmall : (H : Type) → List (DataW H) → Bool := fun _ ds => decide (uptoBulkAll ds ≤ 1048576)
def OpenSpec.upto (s : _root_.Go.ChangeSpec) : _root_.Go.OpenSpec := { _root_.Go.OpenSpec.ofChange s with cond := some uptoSmall }

/-- 'belfrylaw10.IdentLasts', WHERE WHAT IT READS IS OF BULK AT MOST 1048576: true; the input reads as it did. -/
def identLastsUptoRow : OpenClaim := { program := "ytaeegilpfoiagaa", sum := "c19d69fde5e18533acb596fb3c2ef173ca8d20b095d8f1a23f003bea64e8d88d", func := "belfry/belfrylaw10.IdentLasts", spec := "identLasts", apart := false, narrowed := true }
def IdentLastsUptoSaid : Prop := identLastsUptoRow.holds Try.pinned (OpenSpec.upto identLastsSpec)

/-- 'belfrylaw10.IdentNumbers', WHERE WHAT IT READS IS OF BULK AT MOST 1048576: true; the input reads as it did. -/
def identNumbersUptoRow : OpenClaim := { program := "ytaeegilpfoiagaa", sum := "c19d69fde5e18533acb596fb3c2ef173ca8d20b095d8f1a23f003bea64e8d88d", func := "belfry/belfrylaw10.IdentNumbers", spec := "identNumbers", apart := false, narrowed := true }
def IdentNumbersUptoSaid : Prop := identNumbersUptoRow.holds Try.pinned (OpenSpec.upto identNumbersSpec)

/-- 'belfrylaw10.IdentReads', WHERE WHAT IT READS IS OF BULK AT MOST 1048576: true; the input reads as it did. -/
def identReadsUptoRow : OpenClaim := { program := "ytaeegilpfoiagaa", sum := "c19d69fde5e18533acb596fb3c2ef173ca8d20b095d8f1a23f003bea64e8d88d", func := "belfry/belfrylaw10.IdentReads", spec := "identReads", apart := false, narrowed := true }
def IdentReadsUptoSaid : Prop := identReadsUptoRow.holds Try.pinned (OpenSpec.upto identReadsSpec)

/-- 'belfrylaw10.IdentPlays', WHERE WHAT IT READS IS OF BULK AT MOST 1048576: true; the input reads as it did. -/
def identPlaysUptoRow : OpenClaim := { program := "ytaeegilpfoiagaa", sum := "c19d69fde5e18533acb596fb3c2ef173ca8d20b095d8f1a23f003bea64e8d88d", func := "belfry/belfrylaw10.IdentPlays", spec := "identPlays", unfollowed := true, recurses := true, apart := false, narrowed := true }
def IdentPlaysUptoSaid : Prop := identPlaysUptoRow.holds Try.pinned (OpenSpec.upto identPlaysSpec)

/-- 'belfrylaw10.IdentNil', WHERE WHAT IT READS IS OF BULK AT MOST 1048576: true; the input reads as it did. -/
def identNilUptoRow : OpenClaim := { program := "ytaeegilpfoiagaa", sum := "c19d69fde5e18533acb596fb3c2ef173ca8d20b095d8f1a23f003bea64e8d88d", func := "belfry/belfrylaw10.IdentNil", spec := "identNil", unfollowed := true, recurses := true, apart := false, narrowed := true }
def IdentNilUptoSaid : Prop := identNilUptoRow.holds Try.pinned (OpenSpec.upto identNilSpec)

end Rows
end Go.Proofs.Ytaeegilpfoiagaa
