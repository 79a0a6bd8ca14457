/-
  No cell of these rows narrows 'for every input' (looked for: loops, veiled, ifaces, maps, wideKeys, modest, calm, conditions, laid).
  DERIVED. THE GIVEN ROWS OF THIS SEAT. 6 by the template 'for every input the law returns true; each argument reads behind the call as it read before'; 0 by the template 'total and deterministic' (their statements: YtdnkpgbggpbgaaaTotals.lean).
  GIVEN WITH THE SEED: the statements are not yours to turn. If you find one false, say at which input.
  Laid BY PROGRAM, IN A SANDBOX (cutbox-rows.mjs): the forced cells as the released guide's own fill.sh prints them over the translation f75da555c14976c4… (all of the seat's roots in one cut). By AI agents, Wed Nov 11 2026. No macro, syntax, notation, axiom, sorry.
-/
import Derived.Test.YtdnkpgbggpbgaaaChecked
import GoSem.Claim
import GoSem.ClaimJoined
import GoSem.ClaimMapViews
import Derived.JoinedTies
import Derived.KernelRfl
namespace Go.Proofs.Ytdnkpgbggpbgaaa
/- THE CELL 'sum', in the pinned program and in every row, IS THE sha256 OF THE DUMP (.gsa) THAT YtdnkpgbggpbgaaaProg.lean LOADS. Nothing in Lean hashes anything: it is a label: what it is worth is what the hold of that sum in a sandbox is worth. -/
noncomputable def Try.pinned : Pinned := { name := "ytdnkpgbggpbgaaa", sum := "f75da555c14976c4f6be2273d015c020e03686da0a814b5f430a2050a0981d8e", checked := Try.checked }
namespace Rows
def none {H : Type} : Left H := { results := [], args := [] }

/-- 'belfrylaw09.AuditAdds': WHATEVER THE INPUT: true; the input reads as it did. -/
def auditAddsSpec : ChangeSpec := { name := "auditAdds", fn := fun _ => fun
  | [d] => { results := [.lit (.bool true)], args := [d] }
  | _ => none }
def auditAddsRow : OpenClaim := { program := "ytdnkpgbggpbgaaa", sum := "f75da555c14976c4f6be2273d015c020e03686da0a814b5f430a2050a0981d8e", func := "belfry/belfrylaw09.AuditAdds", spec := "auditAdds", unfollowed := true, recurses := true, apart := false }
def AuditAddsSaid : Prop := auditAddsRow.holds Try.pinned (OpenSpec.ofChange auditAddsSpec)

/-- ITS FALSE NEIGHBOUR: 'it returns false'. Refute it at one input. -/
def auditAddsWrong : ChangeSpec := { name := "auditAdds", fn := fun _ => fun
  | [d] => { results := [.lit (.bool false)], args := [d] }
  | _ => none }
def AuditAddsWrongFalsely : Prop := auditAddsRow.holds Try.pinned (OpenSpec.ofChange auditAddsWrong)

/-- 'belfrylaw09.AuditEdits': WHATEVER THE INPUT: true; the input reads as it did. -/
def auditEditsSpec : ChangeSpec := { name := "auditEdits", fn := fun _ => fun
  | [d1, d2, d3, d4] => { results := [.lit (.bool true)], args := [d1, d2, d3, d4] }
  | _ => none }
def auditEditsRow : OpenClaim := { program := "ytdnkpgbggpbgaaa", sum := "f75da555c14976c4f6be2273d015c020e03686da0a814b5f430a2050a0981d8e", func := "belfry/belfrylaw09.AuditEdits", spec := "auditEdits", unfollowed := true, recurses := true, apart := false }
def AuditEditsSaid : Prop := auditEditsRow.holds Try.pinned (OpenSpec.ofChange auditEditsSpec)

/-- ITS FALSE NEIGHBOUR: 'it returns false'. Refute it at one input. -/
def auditEditsWrong : ChangeSpec := { name := "auditEdits", fn := fun _ => fun
  | [d1, d2, d3, d4] => { results := [.lit (.bool false)], args := [d1, d2, d3, d4] }
  | _ => none }
def AuditEditsWrongFalsely : Prop := auditEditsRow.holds Try.pinned (OpenSpec.ofChange auditEditsWrong)

/-- 'belfrylaw09.AuditNil': WHATEVER THE INPUT: true; the input reads as it did. -/
def auditNilSpec : ChangeSpec := { name := "auditNil", fn := fun _ => fun
  | [d] => { results := [.lit (.bool true)], args := [d] }
  | _ => none }
def auditNilRow : OpenClaim := { program := "ytdnkpgbggpbgaaa", sum := "f75da555c14976c4f6be2273d015c020e03686da0a814b5f430a2050a0981d8e", func := "belfry/belfrylaw09.AuditNil", spec := "auditNil", inPlace := ["maps.clone"], unfollowed := true, recurses := true, apart := false }
def AuditNilSaid : Prop := auditNilRow.holds Try.pinned (OpenSpec.ofChange auditNilSpec)

/-- ITS FALSE NEIGHBOUR: 'it returns false'. Refute it at one input. -/
def auditNilWrong : ChangeSpec := { name := "auditNil", fn := fun _ => fun
  | [d] => { results := [.lit (.bool false)], args := [d] }
  | _ => none }
def AuditNilWrongFalsely : Prop := auditNilRow.holds Try.pinned (OpenSpec.ofChange auditNilWrong)

/-- 'belfrylaw09.AuditHeads': WHATEVER THE INPUT: true; the input reads as it did. -/
def auditHeadsSpec : ChangeSpec := { name := "auditHeads", fn := fun _ => fun
  | [d1, d2] => { results := [.lit (.bool true)], args := [d1, d2] }
  | _ => none }
def auditHeadsRow : OpenClaim := { program := "ytdnkpgbggpbgaaa", sum := "f75da555c14976c4f6be2273d015c020e03686da0a814b5f430a2050a0981d8e", func := "belfry/belfrylaw09.AuditHeads", spec := "auditHeads", unfollowed := true, recurses := true, apart := false }
def AuditHeadsSaid : Prop := auditHeadsRow.holds Try.pinned (OpenSpec.ofChange auditHeadsSpec)

/-- ITS FALSE NEIGHBOUR: 'it returns false'. Refute it at one input. -/
def auditHeadsWrong : ChangeSpec := { name := "auditHeads", fn := fun _ => fun
  | [d1, d2] => { results := [.lit (.bool false)], args := [d1, d2] }
  | _ => none }
def AuditHeadsWrongFalsely : Prop := auditHeadsRow.holds Try.pinned (OpenSpec.ofChange auditHeadsWrong)

/-- 'belfrylaw09.AuditStands': WHATEVER THE INPUT: true; the input reads as it did. -/
def auditStandsSpec : ChangeSpec := { name := "auditStands", fn := fun _ => fun
  | [d1, d2] => { results := [.lit (.bool true)], args := [d1, d2] }
  | _ => none }
def auditStandsRow : OpenClaim := { program := "ytdnkpgbggpbgaaa", sum := "f75da555c14976c4f6be2273d015c020e03686da0a814b5f430a2050a0981d8e", func := "belfry/belfrylaw09.AuditStands", spec := "auditStands", inPlace := ["maps.clone"], unfollowed := true, recurses := true, apart := false }
def AuditStandsSaid : Prop := auditStandsRow.holds Try.pinned (OpenSpec.ofChange auditStandsSpec)

/-- ITS FALSE NEIGHBOUR: 'it returns false'. Refute it at one input. -/
def auditStandsWrong : ChangeSpec := { name := "auditStands", fn := fun _ => fun
  | [d1, d2] => { results := [.lit (.bool false)], args := [d1, d2] }
  | _ => none }
def AuditStandsWrongFalsely : Prop := auditStandsRow.holds Try.pinned (OpenSpec.ofChange auditStandsWrong)

/-- 'belfrylaw09.AuditSubs': WHATEVER THE INPUT: true; the input reads as it did. -/
def auditSubsSpec : ChangeSpec := { name := "auditSubs", fn := fun _ => fun
  | [d1, d2, d3, d4, d5] => { results := [.lit (.bool true)], args := [d1, d2, d3, d4, d5] }
  | _ => none }
def auditSubsRow : OpenClaim := { program := "ytdnkpgbggpbgaaa", sum := "f75da555c14976c4f6be2273d015c020e03686da0a814b5f430a2050a0981d8e", func := "belfry/belfrylaw09.AuditSubs", spec := "auditSubs", unfollowed := true, recurses := true, apart := false }
def AuditSubsSaid : Prop := auditSubsRow.holds Try.pinned (OpenSpec.ofChange auditSubsSpec)

/-- ITS FALSE NEIGHBOUR: 'it returns false'. Refute it at one input. -/
def auditSubsWrong : ChangeSpec := { name := "auditSubs", fn := fun _ => fun
  | [d1, d2, d3, d4, d5] => { results := [.lit (.bool false)], args := [d1, d2, d3, d4, d5] }
  | _ => none }
def AuditSubsWrongFalsely : Prop := auditSubsRow.holds Try.pinned (OpenSpec.ofChange auditSubsWrong)

/- THE SECOND FORM. 'bulk': how many values and letters a reading holds, each counted each time it is reached (what is shared counts as often as it is met; a slice's spare places count too). A statement '..UptoSaid' is the law's where the arguments, and the package variables that the reading takes, are together of bulk at most 1048576: NARROWER than '..Said'. Prove '..Said' where nothing that the law and all that it calls make is longer than what came in: it says more and counts as full. Else prove '..UptoSaid'. A law counts once. -/
mutual
def uptoBulk {H : Type} : DataW H → Nat
  | .lit (.string bytes) => bytes.length + 1
  | .lit _ => 1
  | .nil => 1
  | .ptr d => uptoBulk d + 1
  | .slice elems spare => uptoBulkAll elems + uptoBulkAll spare + 1
  | .agg parts => uptoBulkAll parts + 1
  | .iface _ d => uptoBulk d + 1
  | .map entries => uptoBulkEntries entries + 1
  | .held _ => 1
def uptoBulkAll {H : Type} : List (DataW H) → Nat
  | [] => 0
  | d :: r => uptoBulk d + uptoBulkAll r
def uptoBulkEntries {H : Type} : List (Lit × DataW H) → Nat
  | [] => 0
  | x :: r => uptoBulkEntry x + uptoBulkEntries r
def uptoBulkEntry {H : Type} : Lit × DataW H → Nat
  | (.string bytes, d) => bytes.length + uptoBulk d + 1
  | (_, d) => uptoBulk d + 1
 end
def uptoSmall : (H : Type) → List (DataW H) → Bool := fun _ ds => decide (uptoBulkAll ds ≤ 1048576)
def OpenSpec.upto (s : _root_.Go.ChangeSpec) : _root_.Go.OpenSpec := { _root_.Go.OpenSpec.ofChange s with cond := some uptoSmall }

/-- 'belfrylaw09.AuditAdds', WHERE WHAT IT READS IS OF BULK AT MOST 1048576: true; the input reads as it did. -/
def auditAddsUptoRow : OpenClaim := { program := "ytdnkpgbggpbgaaa", sum := "f75da555c14976c4f6be2273d015c020e03686da0a814b5f430a2050a0981d8e", func := "belfry/belfrylaw09.AuditAdds", spec := "auditAdds", unfollowed := true, recurses := true, apart := false, narrowed := true }
def AuditAddsUptoSaid : Prop := auditAddsUptoRow.holds Try.pinned (OpenSpec.upto auditAddsSpec)

/-- 'belfrylaw09.AuditEdits', WHERE WHAT IT READS IS OF BULK AT MOST 1048576: true; the input reads as it did. -/
def auditEditsUptoRow : OpenClaim := { program := "ytdnkpgbggpbgaaa", sum := "f75da555c14976c4f6be2273d015c020e03686da0a814b5f430a2050a0981d8e", func := "belfry/belfrylaw09.AuditEdits", spec := "auditEdits", unfollowed := true, recurses := true, apart := false, narrowed := true }
def AuditEditsUptoSaid : Prop := auditEditsUptoRow.holds Try.pinned (OpenSpec.upto auditEditsSpec)

/-- 'belfrylaw09.AuditNil', WHERE WHAT IT READS IS OF BULK AT MOST 1048576: true; the input reads as it did. -/
def auditNilUptoRow : OpenClaim := { program := "ytdnkpgbggpbgaaa", sum := "f75da555c14976c4f6be2273d015c020e03686da0a814b5f430a2050a0981d8e", func := "belfry/belfrylaw09.AuditNil", spec := "auditNil", inPlace := ["maps.clone"], unfollowed := true, recurses := true, apart := false, narrowed := true }
def AuditNilUptoSaid : Prop := auditNilUptoRow.holds Try.pinned (OpenSpec.upto auditNilSpec)

/-- 'belfrylaw09.AuditHeads', WHERE WHAT IT READS IS OF BULK AT MOST 1048576: true; the input reads as it did. -/
def auditHeadsUptoRow : OpenClaim := { program := "ytdnkpgbggpbgaaa", sum := "f75da555c14976c4f6be2273d015c020e03686da0a814b5f430a2050a0981d8e", func := "belfry/belfrylaw09.AuditHeads", spec := "auditHeads", unfollowed := true, recurses := true, apart := false, narrowed := true }
def AuditHeadsUptoSaid : Prop := auditHeadsUptoRow.holds Try.pinned (OpenSpec.upto auditHeadsSpec)

/-- 'belfrylaw09.AuditStands', WHERE WHAT IT READS IS OF BULK AT MOST 1048576: true; the input reads as it did. -/
def auditStandsUptoRow : OpenClaim := { program := "ytdnkpgbggpbgaaa", sum := "f75da555c14976c4f6be2273d015c020e03686da0a814b5f430a2050a0981d8e", func := "belfry/belfrylaw09.AuditStands", spec := "auditStands", inPlace := ["maps.clone"], unfollowed := true, recurses := true, apart := false, narrowed := true }
def AuditStandsUptoSaid : Prop := auditStandsUptoRow.holds Try.pinned (OpenSpec.upto auditStandsSpec)

/-- 'belfrylaw09.AuditSubs', WHERE WHAT IT READS IS OF BULK AT MOST 1048576: true; the input reads as it did. -/
def auditSubsUptoRow : OpenClaim := { program := "ytdnkpgbggpbgaaa", sum := "f75da555c14976c4f6be2273d015c020e03686da0a814b5f430a2050a0981d8e", func := "belfry/belfrylaw09.AuditSubs", spec := "auditSubs", unfollowed := true, recurses := true, apart := false, narrowed := true }
def AuditSubsUptoSaid : Prop := auditSubsUptoRow.holds Try.pinned (OpenSpec.upto auditSubsSpec)

end Rows
end Go.Proofs.Ytdnkpgbggpbgaaa
