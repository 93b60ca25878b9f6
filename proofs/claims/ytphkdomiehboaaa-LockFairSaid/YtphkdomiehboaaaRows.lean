/-
  No cell of these rows narrows 'for every input' (looked for: loops, veiled, ifaces, maps, wideKeys, modest, calm, conditions, laid).
  DERIVED. THE GIVEN ROWS OF THIS SEAT. 8 by the template 'for every input the law returns true; each argument reads behind the call as it read before'; 0 by the template 'total and deterministic' (their statements: YtphkdomiehboaaaTotals.lean).
  GIVEN WITH THE SEED: the statements are not yours to turn. If you find one false, say at which input.
  Laid BY PROGRAM, IN A SANDBOX (cutbox-rows.mjs): the forced cells as the released guide's own fill.sh prints them over the translation 2a0e29fad073b707… (all of the seat's roots in one cut). By AI agents, Wed Nov 11 2026. No macro, syntax, notation, axiom, sorry.
-/
import Derived.Test.YtphkdomiehboaaaChecked
import GoSem.Claim
import GoSem.ClaimJoined
import GoSem.ClaimMapViews
import Derived.JoinedTies
import Derived.KernelRfl
namespace Go.Proofs.Ytphkdomiehboaaa
/- THE CELL 'sum', in the pinned program and in every row, IS THE sha256 OF THE DUMP (.gsa) THAT YtphkdomiehboaaaProg.lean LOADS. Nothing in Lean hashes anything: it is a label: what it is worth is what the hold of that sum in a sandbox is worth. -/
noncomputable def Try.pinned : Pinned := { name := "ytphkdomiehboaaa", sum := "2a0e29fad073b707bbdfa28bd9cd99d7dc4b5cbc0d58447bff2880a93585f75c", checked := Try.checked }
namespace Rows
def none {H : Type} : Left H := { results := [], args := [] }

/-- 'tallymanlaw18.FifoDoes': WHATEVER THE INPUT: true; the input reads as it did. -/
def fifoDoesSpec : ChangeSpec := { name := "fifoDoes", fn := fun _ => fun
  | [d1, d2] => { results := [.lit (.bool true)], args := [d1, d2] }
  | _ => none }
def fifoDoesRow : OpenClaim := { program := "ytphkdomiehboaaa", sum := "2a0e29fad073b707bbdfa28bd9cd99d7dc4b5cbc0d58447bff2880a93585f75c", func := "tallyman/tallymanlaw18.FifoDoes", spec := "fifoDoes", apart := false }
def FifoDoesSaid : Prop := fifoDoesRow.holds Try.pinned (OpenSpec.ofChange fifoDoesSpec)

/-- ITS FALSE NEIGHBOUR: 'it returns false'. Refute it at one input. -/
def fifoDoesWrong : ChangeSpec := { name := "fifoDoes", fn := fun _ => fun
  | [d1, d2] => { results := [.lit (.bool false)], args := [d1, d2] }
  | _ => none }
def FifoDoesWrongFalsely : Prop := fifoDoesRow.holds Try.pinned (OpenSpec.ofChange fifoDoesWrong)

/-- 'tallymanlaw18.FifoFair': WHATEVER THE INPUT: true; the input reads as it did. -/
def fifoFairSpec : ChangeSpec := { name := "fifoFair", fn := fun _ => fun
  | [d1, d2] => { results := [.lit (.bool true)], args := [d1, d2] }
  | _ => none }
def fifoFairRow : OpenClaim := { program := "ytphkdomiehboaaa", sum := "2a0e29fad073b707bbdfa28bd9cd99d7dc4b5cbc0d58447bff2880a93585f75c", func := "tallyman/tallymanlaw18.FifoFair", spec := "fifoFair", apart := false }
def FifoFairSaid : Prop := fifoFairRow.holds Try.pinned (OpenSpec.ofChange fifoFairSpec)

/-- ITS FALSE NEIGHBOUR: 'it returns false'. Refute it at one input. -/
def fifoFairWrong : ChangeSpec := { name := "fifoFair", fn := fun _ => fun
  | [d1, d2] => { results := [.lit (.bool false)], args := [d1, d2] }
  | _ => none }
def FifoFairWrongFalsely : Prop := fifoFairRow.holds Try.pinned (OpenSpec.ofChange fifoFairWrong)

/-- 'tallymanlaw19.LockDoes': WHATEVER THE INPUT: true; the input reads as it did. -/
def lockDoesSpec : ChangeSpec := { name := "lockDoes", fn := fun _ => fun
  | [d1, d2] => { results := [.lit (.bool true)], args := [d1, d2] }
  | _ => none }
def lockDoesRow : OpenClaim := { program := "ytphkdomiehboaaa", sum := "2a0e29fad073b707bbdfa28bd9cd99d7dc4b5cbc0d58447bff2880a93585f75c", func := "tallyman/tallymanlaw19.LockDoes", spec := "lockDoes", apart := false }
def LockDoesSaid : Prop := lockDoesRow.holds Try.pinned (OpenSpec.ofChange lockDoesSpec)

/-- ITS FALSE NEIGHBOUR: 'it returns false'. Refute it at one input. -/
def lockDoesWrong : ChangeSpec := { name := "lockDoes", fn := fun _ => fun
  | [d1, d2] => { results := [.lit (.bool false)], args := [d1, d2] }
  | _ => none }
def LockDoesWrongFalsely : Prop := lockDoesRow.holds Try.pinned (OpenSpec.ofChange lockDoesWrong)

/-- 'tallymanlaw19.LockFair': WHATEVER THE INPUT: true; the input reads as it did. -/
def lockFairSpec : ChangeSpec := { name := "lockFair", fn := fun _ => fun
  | [d1, d2] => { results := [.lit (.bool true)], args := [d1, d2] }
  | _ => none }
def lockFairRow : OpenClaim := { program := "ytphkdomiehboaaa", sum := "2a0e29fad073b707bbdfa28bd9cd99d7dc4b5cbc0d58447bff2880a93585f75c", func := "tallyman/tallymanlaw19.LockFair", spec := "lockFair", apart := false }
def LockFairSaid : Prop := lockFairRow.holds Try.pinned (OpenSpec.ofChange lockFairSpec)

/-- ITS FALSE NEIGHBOUR: 'it returns false'. Refute it at one input. -/
def lockFairWrong : ChangeSpec := { name := "lockFair", fn := fun _ => fun
  | [d1, d2] => { results := [.lit (.bool false)], args := [d1, d2] }
  | _ => none }
def LockFairWrongFalsely : Prop := lockFairRow.holds Try.pinned (OpenSpec.ofChange lockFairWrong)

/-- 'tallymanlaw28.CmdChecks': WHATEVER THE INPUT: true; the input reads as it did. -/
def cmdChecksSpec : ChangeSpec := { name := "cmdChecks", fn := fun _ => fun
  | [d1, d2] => { results := [.lit (.bool true)], args := [d1, d2] }
  | _ => none }
def cmdChecksRow : OpenClaim := { program := "ytphkdomiehboaaa", sum := "2a0e29fad073b707bbdfa28bd9cd99d7dc4b5cbc0d58447bff2880a93585f75c", func := "tallyman/tallymanlaw28.CmdChecks", spec := "cmdChecks", unfollowed := true, recurses := true, apart := false }
def CmdChecksSaid : Prop := cmdChecksRow.holds Try.pinned (OpenSpec.ofChange cmdChecksSpec)

/-- ITS FALSE NEIGHBOUR: 'it returns false'. Refute it at one input. -/
def cmdChecksWrong : ChangeSpec := { name := "cmdChecks", fn := fun _ => fun
  | [d1, d2] => { results := [.lit (.bool false)], args := [d1, d2] }
  | _ => none }
def CmdChecksWrongFalsely : Prop := cmdChecksRow.holds Try.pinned (OpenSpec.ofChange cmdChecksWrong)

/-- 'tallymanlaw28.CmdShape': WHATEVER THE INPUT: true; the input reads as it did. -/
def cmdShapeSpec : ChangeSpec := { name := "cmdShape", fn := fun _ => fun
  | [d] => { results := [.lit (.bool true)], args := [d] }
  | _ => none }
def cmdShapeRow : OpenClaim := { program := "ytphkdomiehboaaa", sum := "2a0e29fad073b707bbdfa28bd9cd99d7dc4b5cbc0d58447bff2880a93585f75c", func := "tallyman/tallymanlaw28.CmdShape", spec := "cmdShape", unfollowed := true, recurses := true, apart := false }
def CmdShapeSaid : Prop := cmdShapeRow.holds Try.pinned (OpenSpec.ofChange cmdShapeSpec)

/-- ITS FALSE NEIGHBOUR: 'it returns false'. Refute it at one input. -/
def cmdShapeWrong : ChangeSpec := { name := "cmdShape", fn := fun _ => fun
  | [d] => { results := [.lit (.bool false)], args := [d] }
  | _ => none }
def CmdShapeWrongFalsely : Prop := cmdShapeRow.holds Try.pinned (OpenSpec.ofChange cmdShapeWrong)

/-- 'tallymanlaw25.RosterDoes': WHATEVER THE INPUT: true; the input reads as it did. -/
def rosterDoesSpec : ChangeSpec := { name := "rosterDoes", fn := fun _ => fun
  | [d1, d2, d3, d4] => { results := [.lit (.bool true)], args := [d1, d2, d3, d4] }
  | _ => none }
def rosterDoesRow : OpenClaim := { program := "ytphkdomiehboaaa", sum := "2a0e29fad073b707bbdfa28bd9cd99d7dc4b5cbc0d58447bff2880a93585f75c", func := "tallyman/tallymanlaw25.RosterDoes", spec := "rosterDoes", inPlace := ["slices.overlaps[tallyman/roster.entry]"], unfollowed := true, recurses := true, apart := false }
def RosterDoesSaid : Prop := rosterDoesRow.holds Try.pinned (OpenSpec.ofChange rosterDoesSpec)

/-- ITS FALSE NEIGHBOUR: 'it returns false'. Refute it at one input. -/
def rosterDoesWrong : ChangeSpec := { name := "rosterDoes", fn := fun _ => fun
  | [d1, d2, d3, d4] => { results := [.lit (.bool false)], args := [d1, d2, d3, d4] }
  | _ => none }
def RosterDoesWrongFalsely : Prop := rosterDoesRow.holds Try.pinned (OpenSpec.ofChange rosterDoesWrong)

/-- 'tallymanlaw25.RosterPicks': WHATEVER THE INPUT: true; the input reads as it did. -/
def rosterPicksSpec : ChangeSpec := { name := "rosterPicks", fn := fun _ => fun
  | [d1, d2, d3] => { results := [.lit (.bool true)], args := [d1, d2, d3] }
  | _ => none }
def rosterPicksRow : OpenClaim := { program := "ytphkdomiehboaaa", sum := "2a0e29fad073b707bbdfa28bd9cd99d7dc4b5cbc0d58447bff2880a93585f75c", func := "tallyman/tallymanlaw25.RosterPicks", spec := "rosterPicks", inPlace := ["slices.overlaps[tallyman/roster.entry]"], unfollowed := true, recurses := true, apart := false }
def RosterPicksSaid : Prop := rosterPicksRow.holds Try.pinned (OpenSpec.ofChange rosterPicksSpec)

/-- ITS FALSE NEIGHBOUR: 'it returns false'. Refute it at one input. -/
def rosterPicksWrong : ChangeSpec := { name := "rosterPicks", fn := fun _ => fun
  | [d1, d2, d3] => { results := [.lit (.bool false)], args := [d1, d2, d3] }
  | _ => none }
def RosterPicksWrongFalsely : Prop := rosterPicksRow.holds Try.pinned (OpenSpec.ofChange rosterPicksWrong)

/- THE SECOND FORM. 'bulk': how many values and letters a reading holds, each counted each time it is reached (what is shared counts as often as it is met; a slice's spare places count too). A statement '..UptoSaid' is the law's where the arguments, and the package variables that the reading takes, are together of bulk at most 1048576: NARROWER than '..Said'. Prove '..Said' where nothing that the law and all that it calls make is longer than what came in: it says more and counts as full. Else prove '..UptoSaid'. A law counts once. -/
mutual
def uptoBulk {H : Type} : DataW H → Nat
  | .lit (.string bytes) => bytes.length + 1
  | .lit _ => 1
  | .nil => 1
  | .ptr d => uptoBulk d + 1
  | .slice elems spare => uptoBulkAll elems + uptoBulkAll spare + 1
  | .agg parts => uptoBulkAll parts + 1
  | .iface _ d => uptoBulk d + 1
  | .map entries => uptoBulkEntries entries + 1
  | .held _ => 1
def uptoBulkAll {H : Type} : List (DataW H) → Nat
  | [] => 0
  | d :: r => uptoBulk d + uptoBulkAll r
def uptoBulkEntries {H : Type} : List (Lit × DataW H) → Nat
  | [] => 0
  | x :: r => uptoBulkEntry x + uptoBulkEntries r
def uptoBulkEntry {H : Type} : Lit × DataW H → Nat
  | (.string bytes, d) => bytes.length + uptoBulk d + 1
  | (_, d) => uptoBulk d + 1
 end
def uptoSmall : (H : Type) → List (DataW H) → Bool := fun _ ds => decide (uptoBulkAll ds ≤ 1048576)
def OpenSpec.upto (s : _root_.Go.ChangeSpec) : _root_.Go.OpenSpec := { _root_.Go.OpenSpec.ofChange s with cond := some uptoSmall }

/-- 'tallymanlaw18.FifoDoes', WHERE WHAT IT READS IS OF BULK AT MOST 1048576: true; the input reads as it did. -/
def fifoDoesUptoRow : OpenClaim := { program := "ytphkdomiehboaaa", sum := "2a0e29fad073b707bbdfa28bd9cd99d7dc4b5cbc0d58447bff2880a93585f75c", func := "tallyman/tallymanlaw18.FifoDoes", spec := "fifoDoes", apart := false, narrowed := true }
def FifoDoesUptoSaid : Prop := fifoDoesUptoRow.holds Try.pinned (OpenSpec.upto fifoDoesSpec)

/-- 'tallymanlaw18.FifoFair', WHERE WHAT IT READS IS OF BULK AT MOST 1048576: true; the input reads as it did. -/
def fifoFairUptoRow : OpenClaim := { program := "ytphkdomiehboaaa", sum := "2a0e29fad073b707bbdfa28bd9cd99d7dc4b5cbc0d58447bff2880a93585f75c", func := "tallyman/tallymanlaw18.FifoFair", spec := "fifoFair", apart := false, narrowed := true }
def FifoFairUptoSaid : Prop := fifoFairUptoRow.holds Try.pinned (OpenSpec.upto fifoFairSpec)

/-- 'tallymanlaw19.LockDoes', WHERE WHAT IT READS IS OF BULK AT MOST 1048576: true; the input reads as it did. -/
def lockDoesUptoRow : OpenClaim := { program := "ytphkdomiehboaaa", sum := "2a0e29fad073b707bbdfa28bd9cd99d7dc4b5cbc0d58447bff2880a93585f75c", func := "tallyman/tallymanlaw19.LockDoes", spec := "lockDoes", apart := false, narrowed := true }
def LockDoesUptoSaid : Prop := lockDoesUptoRow.holds Try.pinned (OpenSpec.upto lockDoesSpec)

/-- 'tallymanlaw19.LockFair', WHERE WHAT IT READS IS OF BULK AT MOST 1048576: true; the input reads as it did. -/
def lockFairUptoRow : OpenClaim := { program := "ytphkdomiehboaaa", sum := "2a0e29fad073b707bbdfa28bd9cd99d7dc4b5cbc0d58447bff2880a93585f75c", func := "tallyman/tallymanlaw19.LockFair", spec := "lockFair", apart := false, narrowed := true }
def LockFairUptoSaid : Prop := lockFairUptoRow.holds Try.pinned (OpenSpec.upto lockFairSpec)

/-- 'tallymanlaw28.CmdChecks', WHERE WHAT IT READS IS OF BULK AT MOST 1048576: true; the input reads as it did. -/
def cmdChecksUptoRow : OpenClaim := { program := "ytphkdomiehboaaa", sum := "2a0e29fad073b707bbdfa28bd9cd99d7dc4b5cbc0d58447bff2880a93585f75c", func := "tallyman/tallymanlaw28.CmdChecks", spec := "cmdChecks", unfollowed := true, recurses := true, apart := false, narrowed := true }
def CmdChecksUptoSaid : Prop := cmdChecksUptoRow.holds Try.pinned (OpenSpec.upto cmdChecksSpec)

/-- 'tallymanlaw28.CmdShape', WHERE WHAT IT READS IS OF BULK AT MOST 1048576: true; the input reads as it did. -/
def cmdShapeUptoRow : OpenClaim := { program := "ytphkdomiehboaaa", sum := "2a0e29fad073b707bbdfa28bd9cd99d7dc4b5cbc0d58447bff2880a93585f75c", func := "tallyman/tallymanlaw28.CmdShape", spec := "cmdShape", unfollowed := true, recurses := true, apart := false, narrowed := true }
def CmdShapeUptoSaid : Prop := cmdShapeUptoRow.holds Try.pinned (OpenSpec.upto cmdShapeSpec)

/-- 'tallymanlaw25.RosterDoes', WHERE WHAT IT READS IS OF BULK AT MOST 1048576: true; the input reads as it did. -/
def rosterDoesUptoRow : OpenClaim := { program := "ytphkdomiehboaaa", sum := "2a0e29fad073b707bbdfa28bd9cd99d7dc4b5cbc0d58447bff2880a93585f75c", func := "tallyman/tallymanlaw25.RosterDoes", spec := "rosterDoes", inPlace := ["slices.overlaps[tallyman/roster.entry]"], unfollowed := true, recurses := true, apart := false, narrowed := true }
def RosterDoesUptoSaid : Prop := rosterDoesUptoRow.holds Try.pinned (OpenSpec.upto rosterDoesSpec)

/-- 'tallymanlaw25.RosterPicks', WHERE WHAT IT READS IS OF BULK AT MOST 1048576: true; the input reads as it did. -/
def rosterPicksUptoRow : OpenClaim := { program := "ytphkdomiehboaaa", sum := "2a0e29fad073b707bbdfa28bd9cd99d7dc4b5cbc0d58447bff2880a93585f75c", func := "tallyman/tallymanlaw25.RosterPicks", spec := "rosterPicks", inPlace := ["slices.overlaps[tallyman/roster.entry]"], unfollowed := true, recurses := true, apart := false, narrowed := true }
def RosterPicksUptoSaid : Prop := rosterPicksUptoRow.holds Try.pinned (OpenSpec.upto rosterPicksSpec)

end Rows
end Go.Proofs.Ytphkdomiehboaaa
