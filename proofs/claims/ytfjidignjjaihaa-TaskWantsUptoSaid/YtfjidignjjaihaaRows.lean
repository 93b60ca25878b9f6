/-
  No cell of these rows narrows 'for every input' (looked for: loops, veiled, ifaces, maps, wideKeys, modest, calm, conditions, laid).
  DERIVED. THE GIVEN ROWS OF THIS SEAT. 7 by the template 'for every input the law returns true; each argument reads behind the call as it read before'; 0 by the template 'total and deterministic' (their statements: YtfjidignjjaihaaTotals.lean).
  GIVEN WITH THE SEED: the statements are not yours to turn. If you find one false, say at which input.
  Laid BY PROGRAM, IN A SANDBOX (cutbox-rows.mjs): the forced cells as the released guide's own fill.sh prints them over the translation 7c6fa0ad04673526… (all of the seat's roots in one cut). By AI agents, Wed Nov 11 2026. No macro, syntax, notation, axiom, sorry.
-/
import Derived.Test.YtfjidignjjaihaaChecked
import GoSem.Claim
import GoSem.ClaimJoined
import GoSem.ClaimMapViews
import Derived.JoinedTies
import Derived.KernelRfl
namespace Go.Proofs.Ytfjidignjjaihaa
/- THE CELL 'sum', in the pinned program and in every row, IS THE sha256 OF THE DUMP (.gsa) THAT YtfjidignjjaihaaProg.lean LOADS. Nothing in Lean hashes anything: it is a label: what it is worth is what the hold of that sum in a sandbox is worth. -/
noncomputable def Try.pinned : Pinned := { name := "ytfjidignjjaihaa", sum := "7c6fa0ad04673526a165c173bf13dee164e0b421886e36fd48f48952f5592014", checked := Try.checked }
namespace Rows
def none {H : Type} : Left H := { results := [], args := [] }

/-- 'tallymanlaw34.StepTells': WHATEVER THE INPUT: true; the input reads as it did. -/
def stepTellsSpec : ChangeSpec := { name := "stepTells", fn := fun _ => fun
  | [d1, d2] => { results := [.lit (.bool true)], args := [d1, d2] }
  | _ => none }
def stepTellsRow : OpenClaim := { program := "ytfjidignjjaihaa", sum := "7c6fa0ad04673526a165c173bf13dee164e0b421886e36fd48f48952f5592014", func := "tallyman/tallymanlaw34.StepTells", spec := "stepTells", unfollowed := true, recurses := true, apart := false }
def StepTellsSaid : Prop := stepTellsRow.holds Try.pinned (OpenSpec.ofChange stepTellsSpec)

/-- ITS FALSE NEIGHBOUR: 'it returns false'. Refute it at one input. -/
def stepTellsWrong : ChangeSpec := { name := "stepTells", fn := fun _ => fun
  | [d1, d2] => { results := [.lit (.bool false)], args := [d1, d2] }
  | _ => none }
def StepTellsWrongFalsely : Prop := stepTellsRow.holds Try.pinned (OpenSpec.ofChange stepTellsWrong)

/-- 'tallymanlaw34.StepChains': WHATEVER THE INPUT: true; the input reads as it did. -/
def stepChainsSpec : ChangeSpec := { name := "stepChains", fn := fun _ => fun
  | [d1, d2, d3] => { results := [.lit (.bool true)], args := [d1, d2, d3] }
  | _ => none }
def stepChainsRow : OpenClaim := { program := "ytfjidignjjaihaa", sum := "7c6fa0ad04673526a165c173bf13dee164e0b421886e36fd48f48952f5592014", func := "tallyman/tallymanlaw34.StepChains", spec := "stepChains", unfollowed := true, recurses := true, apart := false }
def StepChainsSaid : Prop := stepChainsRow.holds Try.pinned (OpenSpec.ofChange stepChainsSpec)

/-- ITS FALSE NEIGHBOUR: 'it returns false'. Refute it at one input. -/
def stepChainsWrong : ChangeSpec := { name := "stepChains", fn := fun _ => fun
  | [d1, d2, d3] => { results := [.lit (.bool false)], args := [d1, d2, d3] }
  | _ => none }
def StepChainsWrongFalsely : Prop := stepChainsRow.holds Try.pinned (OpenSpec.ofChange stepChainsWrong)

/-- 'tallymanlaw22.TaskAsks': WHATEVER THE INPUT: true; the input reads as it did. -/
def taskAsksSpec : ChangeSpec := { name := "taskAsks", fn := fun _ => fun
  | [d1, d2, d3, d4, d5] => { results := [.lit (.bool true)], args := [d1, d2, d3, d4, d5] }
  | _ => none }
def taskAsksRow : OpenClaim := { program := "ytfjidignjjaihaa", sum := "7c6fa0ad04673526a165c173bf13dee164e0b421886e36fd48f48952f5592014", func := "tallyman/tallymanlaw22.TaskAsks", spec := "taskAsks", unfollowed := true, recurses := true, apart := false }
def TaskAsksSaid : Prop := taskAsksRow.holds Try.pinned (OpenSpec.ofChange taskAsksSpec)

/-- ITS FALSE NEIGHBOUR: 'it returns false'. Refute it at one input. -/
def taskAsksWrong : ChangeSpec := { name := "taskAsks", fn := fun _ => fun
  | [d1, d2, d3, d4, d5] => { results := [.lit (.bool false)], args := [d1, d2, d3, d4, d5] }
  | _ => none }
def TaskAsksWrongFalsely : Prop := taskAsksRow.holds Try.pinned (OpenSpec.ofChange taskAsksWrong)

/-- 'tallymanlaw22.TaskWants': WHATEVER THE INPUT: true; the input reads as it did. -/
def taskWantsSpec : ChangeSpec := { name := "taskWants", fn := fun _ => fun
  | [d1, d2, d3, d4, d5] => { results := [.lit (.bool true)], args := [d1, d2, d3, d4, d5] }
  | _ => none }
def taskWantsRow : OpenClaim := { program := "ytfjidignjjaihaa", sum := "7c6fa0ad04673526a165c173bf13dee164e0b421886e36fd48f48952f5592014", func := "tallyman/tallymanlaw22.TaskWants", spec := "taskWants", unfollowed := true, recurses := true, apart := false }
def TaskWantsSaid : Prop := taskWantsRow.holds Try.pinned (OpenSpec.ofChange taskWantsSpec)

/-- ITS FALSE NEIGHBOUR: 'it returns false'. Refute it at one input. -/
def taskWantsWrong : ChangeSpec := { name := "taskWants", fn := fun _ => fun
  | [d1, d2, d3, d4, d5] => { results := [.lit (.bool false)], args := [d1, d2, d3, d4, d5] }
  | _ => none }
def TaskWantsWrongFalsely : Prop := taskWantsRow.holds Try.pinned (OpenSpec.ofChange taskWantsWrong)

/-- 'tallymanlaw30.StateCopies': WHATEVER THE INPUT: true; the input reads as it did. -/
def stateCopiesSpec : ChangeSpec := { name := "stateCopies", fn := fun _ => fun
  | [d1, d2] => { results := [.lit (.bool true)], args := [d1, d2] }
  | _ => none }
def stateCopiesRow : OpenClaim := { program := "ytfjidignjjaihaa", sum := "7c6fa0ad04673526a165c173bf13dee164e0b421886e36fd48f48952f5592014", func := "tallyman/tallymanlaw30.StateCopies", spec := "stateCopies", unfollowed := true, recurses := true, apart := false }
def StateCopiesSaid : Prop := stateCopiesRow.holds Try.pinned (OpenSpec.ofChange stateCopiesSpec)

/-- ITS FALSE NEIGHBOUR: 'it returns false'. Refute it at one input. -/
def stateCopiesWrong : ChangeSpec := { name := "stateCopies", fn := fun _ => fun
  | [d1, d2] => { results := [.lit (.bool false)], args := [d1, d2] }
  | _ => none }
def StateCopiesWrongFalsely : Prop := stateCopiesRow.holds Try.pinned (OpenSpec.ofChange stateCopiesWrong)

/-- 'tallymanlaw25.RosterDoes': WHATEVER THE INPUT: true; the input reads as it did. -/
def rosterDoesSpec : ChangeSpec := { name := "rosterDoes", fn := fun _ => fun
  | [d1, d2, d3, d4] => { results := [.lit (.bool true)], args := [d1, d2, d3, d4] }
  | _ => none }
def rosterDoesRow : OpenClaim := { program := "ytfjidignjjaihaa", sum := "7c6fa0ad04673526a165c173bf13dee164e0b421886e36fd48f48952f5592014", func := "tallyman/tallymanlaw25.RosterDoes", spec := "rosterDoes", inPlace := ["slices.overlaps[tallyman/roster.entry]"], unfollowed := true, recurses := true, apart := false }
def RosterDoesSaid : Prop := rosterDoesRow.holds Try.pinned (OpenSpec.ofChange rosterDoesSpec)

/-- ITS FALSE NEIGHBOUR: 'it returns false'. Refute it at one input. -/
def rosterDoesWrong : ChangeSpec := { name := "rosterDoes", fn := fun _ => fun
  | [d1, d2, d3, d4] => { results := [.lit (.bool false)], args := [d1, d2, d3, d4] }
  | _ => none }
def RosterDoesWrongFalsely : Prop := rosterDoesRow.holds Try.pinned (OpenSpec.ofChange rosterDoesWrong)

/-- 'tallymanlaw25.RosterPicks': WHATEVER THE INPUT: true; the input reads as it did. -/
def rosterPicksSpec : ChangeSpec := { name := "rosterPicks", fn := fun _ => fun
  | [d1, d2, d3] => { results := [.lit (.bool true)], args := [d1, d2, d3] }
  | _ => none }
def rosterPicksRow : OpenClaim := { program := "ytfjidignjjaihaa", sum := "7c6fa0ad04673526a165c173bf13dee164e0b421886e36fd48f48952f5592014", func := "tallyman/tallymanlaw25.RosterPicks", spec := "rosterPicks", inPlace := ["slices.overlaps[tallyman/roster.entry]"], unfollowed := true, recurses := true, apart := false }
def RosterPicksSaid : Prop := rosterPicksRow.holds Try.pinned (OpenSpec.ofChange rosterPicksSpec)

/-- ITS FALSE NEIGHBOUR: 'it returns false'. Refute it at one input. -/
def rosterPicksWrong : ChangeSpec := { name := "rosterPicks", fn := fun _ => fun
  | [d1, d2, d3] => { results := [.lit (.bool false)], args := [d1, d2, d3] }
  | _ => none }
def RosterPicksWrongFalsely : Prop := rosterPicksRow.holds Try.pinned (OpenSpec.ofChange rosterPicksWrong)

/- THE SECOND FORM. 'bulk': how many values and letters a reading holds, each counted each time it is reached (what is shared counts as often as it is met; a slice's spare places count too). A statement '..UptoSaid' is the law's where the arguments, and the package variables that the reading takes, are together of bulk at most 1048576: NARROWER than '..Said'. Prove '..Said' where nothing that the law and all that it calls make is longer than what came in: it says more and counts as full. Else prove '..UptoSaid'. A law counts once. -/
mutual
def uptoBulk {H : Type} : DataW H → Nat
  | .lit (.string bytes) => bytes.length + 1
  | .lit _ => 1
  | .nil => 1
  | .ptr d => uptoBulk d + 1
  | .slice elems spare => uptoBulkAll elems + uptoBulkAll spare + 1
  | .agg parts => uptoBulkAll parts + 1
  | .iface _ d => uptoBulk d + 1
  | .map entries => uptoBulkEntries entries + 1
  | .held _ => 1
def uptoBulkAll {H : Type} : List (DataW H) → Nat
  | [] => 0
  | d :: r => uptoBulk d + uptoBulkAll r
def uptoBulkEntries {H : Type} : List (Lit × DataW H) → Nat
  | [] => 0
  | x :: r => uptoBulkEntry x + uptoBulkEntries r
def uptoBulkEntry {H : Type} : Lit × DataW H → Nat
  | (.string bytes, d) => bytes.length + uptoBulk d + 1
  | (_, d) => uptoBulk d + 1
 end
def uptoSmall : (H : Type) → List (DataW H) → Bool := fun _ ds => decide (uptoBulkAll ds ≤ 1048576)
def OpenSpec.upto (s : _root_.Go.ChangeSpec) : _root_.Go.OpenSpec := { _root_.Go.OpenSpec.ofChange s with cond := some uptoSmall }

/-- 'tallymanlaw34.StepTells', WHERE WHAT IT READS IS OF BULK AT MOST 1048576: true; the input reads as it did. -/
def stepTellsUptoRow : OpenClaim := { program := "ytfjidignjjaihaa", sum := "7c6fa0ad04673526a165c173bf13dee164e0b421886e36fd48f48952f5592014", func := "tallyman/tallymanlaw34.StepTells", spec := "stepTells", unfollowed := true, recurses := true, apart := false, narrowed := true }
def StepTellsUptoSaid : Prop := stepTellsUptoRow.holds Try.pinned (OpenSpec.upto stepTellsSpec)

/-- 'tallymanlaw34.StepChains', WHERE WHAT IT READS IS OF BULK AT MOST 1048576: true; the input reads as it did. -/
def stepChainsUptoRow : OpenClaim := { program := "ytfjidignjjaihaa", sum := "7c6fa0ad04673526a165c173bf13dee164e0b421886e36fd48f48952f5592014", func := "tallyman/tallymanlaw34.StepChains", spec := "stepChains", unfollowed := true, recurses := true, apart := false, narrowed := true }
def StepChainsUptoSaid : Prop := stepChainsUptoRow.holds Try.pinned (OpenSpec.upto stepChainsSpec)

/-- 'tallymanlaw22.TaskAsks', WHERE WHAT IT READS IS OF BULK AT MOST 1048576: true; the input reads as it did. -/
def taskAsksUptoRow : OpenClaim := { program := "ytfjidignjjaihaa", sum := "7c6fa0ad04673526a165c173bf13dee164e0b421886e36fd48f48952f5592014", func := "tallyman/tallymanlaw22.TaskAsks", spec := "taskAsks", unfollowed := true, recurses := true, apart := false, narrowed := true }
def TaskAsksUptoSaid : Prop := taskAsksUptoRow.holds Try.pinned (OpenSpec.upto taskAsksSpec)

/-- 'tallymanlaw22.TaskWants', WHERE WHAT IT READS IS OF BULK AT MOST 1048576: true; the input reads as it did. -/
def taskWantsUptoRow : OpenClaim := { program := "ytfjidignjjaihaa", sum := "7c6fa0ad04673526a165c173bf13dee164e0b421886e36fd48f48952f5592014", func := "tallyman/tallymanlaw22.TaskWants", spec := "taskWants", unfollowed := true, recurses := true, apart := false, narrowed := true }
def TaskWantsUptoSaid : Prop := taskWantsUptoRow.holds Try.pinned (OpenSpec.upto taskWantsSpec)

/-- 'tallymanlaw30.StateCopies', WHERE WHAT IT READS IS OF BULK AT MOST 1048576: true; the input reads as it did. -/
def stateCopiesUptoRow : OpenClaim := { program := "ytfjidignjjaihaa", sum := "7c6fa0ad04673526a165c173bf13dee164e0b421886e36fd48f48952f5592014", func := "tallyman/tallymanlaw30.StateCopies", spec := "stateCopies", unfollowed := true, recurses := true, apart := false, narrowed := true }
def StateCopiesUptoSaid : Prop := stateCopiesUptoRow.holds Try.pinned (OpenSpec.upto stateCopiesSpec)

/-- 'tallymanlaw25.RosterDoes', WHERE WHAT IT READS IS OF BULK AT MOST 1048576: true; the input reads as it did. -/
def rosterDoesUptoRow : OpenClaim := { program := "ytfjidignjjaihaa", sum := "7c6fa0ad04673526a165c173bf13dee164e0b421886e36fd48f48952f5592014", func := "tallyman/tallymanlaw25.RosterDoes", spec := "rosterDoes", inPlace := ["slices.overlaps[tallyman/roster.entry]"], unfollowed := true, recurses := true, apart := false, narrowed := true }
def RosterDoesUptoSaid : Prop := rosterDoesUptoRow.holds Try.pinned (OpenSpec.upto rosterDoesSpec)

/-- 'tallymanlaw25.RosterPicks', WHERE WHAT IT READS IS OF BULK AT MOST 1048576: true; the input reads as it did. -/
def rosterPicksUptoRow : OpenClaim := { program := "ytfjidignjjaihaa", sum := "7c6fa0ad04673526a165c173bf13dee164e0b421886e36fd48f48952f5592014", func := "tallyman/tallymanlaw25.RosterPicks", spec := "rosterPicks", inPlace := ["slices.overlaps[tallyman/roster.entry]"], unfollowed := true, recurses := true, apart := false, narrowed := true }
def RosterPicksUptoSaid : Prop := rosterPicksUptoRow.holds Try.pinned (OpenSpec.upto rosterPicksSpec)

end Rows
end Go.Proofs.Ytfjidignjjaihaa
