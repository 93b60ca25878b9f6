/-
  No cell of these rows narrows 'for every input' (looked for: loops, veiled, ifaces, maps, wideKeys, modest, calm, conditions, laid).
  DERIVED. THE GIVEN ROWS OF THIS SEAT. 5 by the template 'for every input the law returns true; each argument reads behind the call as it read before'; 0 by the template 'total and deterministic' (their statements: YteidimemlonjbaaTotals.lean).
  GIVEN WITH THE SEED: the statements are not yours to turn. If you find one false, say at which input.
  Laid BY PROGRAM, IN A SANDBOX (cutbox-rows.mjs): the forced cells as the released guide's own fill.sh prints them over the translation fe827f3d95c1c1e0… (all of the seat's roots in one cut). By AI agents, Wed Nov 11 2026. No macro, syntax, notation, axiom, sorry.
-/
import Derived.Test.YteidimemlonjbaaChecked
import GoSem.Claim
import GoSem.ClaimJoined
import GoSem.ClaimMapViews
import Derived.JoinedTies
import Derived.KernelRfl
namespace Go.Proofs.Yteidimemlonjbaa
/- THE CELL 'sum', in the pinned program and in every row, IS THE sha256 OF THE DUMP (.gsa) THAT YteidimemlonjbaaProg.lean LOADS. Nothing in Lean hashes anything: it is a label: what it is worth is what the hold of that sum in a sandbox is worth. -/
noncomputable def Try.pinned : Pinned := { name := "yteidimemlonjbaa", sum := "fe827f3d95c1c1e069924f3bbe29c766d1b751d0500204fd2778e38e0169d483", checked := Try.checked }
namespace Rows
def none {H : Type} : Left H := { results := [], args := [] }

/-- 'tallymanlaw17.IdsetOps': WHATEVER THE INPUT: true; the input reads as it did. -/
def idsetOpsSpec : ChangeSpec := { name := "idsetOps", fn := fun _ => fun
  | [d1, d2, d3] => { results := [.lit (.bool true)], args := [d1, d2, d3] }
  | _ => none }
def idsetOpsRow : OpenClaim := { program := "yteidimemlonjbaa", sum := "fe827f3d95c1c1e069924f3bbe29c766d1b751d0500204fd2778e38e0169d483", func := "tallyman/tallymanlaw17.IdsetOps", spec := "idsetOps", unfollowed := true, recurses := true, apart := false }
def IdsetOpsSaid : Prop := idsetOpsRow.holds Try.pinned (OpenSpec.ofChange idsetOpsSpec)

/-- ITS FALSE NEIGHBOUR: 'it returns false'. Refute it at one input. -/
def idsetOpsWrong : ChangeSpec := { name := "idsetOps", fn := fun _ => fun
  | [d1, d2, d3] => { results := [.lit (.bool false)], args := [d1, d2, d3] }
  | _ => none }
def IdsetOpsWrongFalsely : Prop := idsetOpsRow.holds Try.pinned (OpenSpec.ofChange idsetOpsWrong)

/-- 'tallymanlaw17.IdsetTells': WHATEVER THE INPUT: true; the input reads as it did. -/
def idsetTellsSpec : ChangeSpec := { name := "idsetTells", fn := fun _ => fun
  | [d1, d2] => { results := [.lit (.bool true)], args := [d1, d2] }
  | _ => none }
def idsetTellsRow : OpenClaim := { program := "yteidimemlonjbaa", sum := "fe827f3d95c1c1e069924f3bbe29c766d1b751d0500204fd2778e38e0169d483", func := "tallyman/tallymanlaw17.IdsetTells", spec := "idsetTells", unfollowed := true, recurses := true, apart := false }
def IdsetTellsSaid : Prop := idsetTellsRow.holds Try.pinned (OpenSpec.ofChange idsetTellsSpec)

/-- ITS FALSE NEIGHBOUR: 'it returns false'. Refute it at one input. -/
def idsetTellsWrong : ChangeSpec := { name := "idsetTells", fn := fun _ => fun
  | [d1, d2] => { results := [.lit (.bool false)], args := [d1, d2] }
  | _ => none }
def IdsetTellsWrongFalsely : Prop := idsetTellsRow.holds Try.pinned (OpenSpec.ofChange idsetTellsWrong)

/-- 'tallymanlaw17.IdsetLaws': WHATEVER THE INPUT: true; the input reads as it did. -/
def idsetLawsSpec : ChangeSpec := { name := "idsetLaws", fn := fun _ => fun
  | [d1, d2, d3] => { results := [.lit (.bool true)], args := [d1, d2, d3] }
  | _ => none }
def idsetLawsRow : OpenClaim := { program := "yteidimemlonjbaa", sum := "fe827f3d95c1c1e069924f3bbe29c766d1b751d0500204fd2778e38e0169d483", func := "tallyman/tallymanlaw17.IdsetLaws", spec := "idsetLaws", unfollowed := true, recurses := true, apart := false }
def IdsetLawsSaid : Prop := idsetLawsRow.holds Try.pinned (OpenSpec.ofChange idsetLawsSpec)

/-- ITS FALSE NEIGHBOUR: 'it returns false'. Refute it at one input. -/
def idsetLawsWrong : ChangeSpec := { name := "idsetLaws", fn := fun _ => fun
  | [d1, d2, d3] => { results := [.lit (.bool false)], args := [d1, d2, d3] }
  | _ => none }
def IdsetLawsWrongFalsely : Prop := idsetLawsRow.holds Try.pinned (OpenSpec.ofChange idsetLawsWrong)

/-- 'tallymanlaw34.StepTells': WHATEVER THE INPUT: true; the input reads as it did. -/
def stepTellsSpec : ChangeSpec := { name := "stepTells", fn := fun _ => fun
  | [d1, d2] => { results := [.lit (.bool true)], args := [d1, d2] }
  | _ => none }
def stepTellsRow : OpenClaim := { program := "yteidimemlonjbaa", sum := "fe827f3d95c1c1e069924f3bbe29c766d1b751d0500204fd2778e38e0169d483", func := "tallyman/tallymanlaw34.StepTells", spec := "stepTells", unfollowed := true, recurses := true, apart := false }
def StepTellsSaid : Prop := stepTellsRow.holds Try.pinned (OpenSpec.ofChange stepTellsSpec)

/-- ITS FALSE NEIGHBOUR: 'it returns false'. Refute it at one input. -/
def stepTellsWrong : ChangeSpec := { name := "stepTells", fn := fun _ => fun
  | [d1, d2] => { results := [.lit (.bool false)], args := [d1, d2] }
  | _ => none }
def StepTellsWrongFalsely : Prop := stepTellsRow.holds Try.pinned (OpenSpec.ofChange stepTellsWrong)

/-- 'tallymanlaw34.StepChains': WHATEVER THE INPUT: true; the input reads as it did. -/
def stepChainsSpec : ChangeSpec := { name := "stepChains", fn := fun _ => fun
  | [d1, d2, d3] => { results := [.lit (.bool true)], args := [d1, d2, d3] }
  | _ => none }
def stepChainsRow : OpenClaim := { program := "yteidimemlonjbaa", sum := "fe827f3d95c1c1e069924f3bbe29c766d1b751d0500204fd2778e38e0169d483", func := "tallyman/tallymanlaw34.StepChains", spec := "stepChains", unfollowed := true, recurses := true, apart := false }
def StepChainsSaid : Prop := stepChainsRow.holds Try.pinned (OpenSpec.ofChange stepChainsSpec)

/-- ITS FALSE NEIGHBOUR: 'it returns false'. Refute it at one input. -/
def stepChainsWrong : ChangeSpec := { name := "stepChains", fn := fun _ => fun
  | [d1, d2, d3] => { results := [.lit (.bool false)], args := [d1, d2, d3] }
  | _ => none }
def StepChainsWrongFalsely : Prop := stepChainsRow.holds Try.pinned (OpenSpec.ofChange stepChainsWrong)

/- THE SECOND FORM. 'bulk': how many values and letters a reading holds, each counted each time it is reached (what is shared counts as often as it is met; a slice's spare places count too). A statement '..UptoSaid' is the law's where the arguments, and the package variables that the reading takes, are together of bulk at most 1048576: NARROWER than '..Said'. Prove '..Said' where nothing that the law and all that it calls make is longer than what came in: it says more and counts as full. Else prove '..UptoSaid'. A law counts once. -/
mutual
def uptoBulk {H : Type} : DataW H → Nat
  | .lit (.string bytes) => bytes.length + 1
  | .lit _ => 1
  | .nil => 1
  | .ptr d => uptoBulk d + 1
  | .slice elems spare => uptoBulkAll elems + uptoBulkAll spare + 1
  | .agg parts => uptoBulkAll parts + 1
  | .iface _ d => uptoBulk d + 1
  | .map entries => uptoBulkEntries entries + 1
  | .held _ => 1
def uptoBulkAll {H : Type} : List (DataW H) → Nat
  | [] => 0
  | d :: r => uptoBulk d + uptoBulkAll r
def uptoBulkEntries {H : Type} : List (Lit × DataW H) → Nat
  | [] => 0
  | x :: r => uptoBulkEntry x + uptoBulkEntries r
def uptoBulkEntry {H : Type} : Lit × DataW H → Nat
  | (.string bytes, d) => bytes.length + uptoBulk d + 1
  | (_, d) => uptoBulk d + 1
 end
def uptoSmall : (H : Type) → List (DataW H) → Bool := fun _ ds => decide (uptoBulkAll ds ≤ 1048576)
def OpenSpec.upto (s : _root_.Go.ChangeSpec) : _root_.Go.OpenSpec := { _root_.Go.OpenSpec.ofChange s with cond := some uptoSmall }

/-- 'tallymanlaw17.IdsetOps', WHERE WHAT IT READS IS OF BULK AT MOST 1048576: true; the input reads as it did. -/
def idsetOpsUptoRow : OpenClaim := { program := "yteidimemlonjbaa", sum := "fe827f3d95c1c1e069924f3bbe29c766d1b751d0500204fd2778e38e0169d483", func := "tallyman/tallymanlaw17.IdsetOps", spec := "idsetOps", unfollowed := true, recurses := true, apart := false, narrowed := true }
def IdsetOpsUptoSaid : Prop := idsetOpsUptoRow.holds Try.pinned (OpenSpec.upto idsetOpsSpec)

/-- 'tallymanlaw17.IdsetTells', WHERE WHAT IT READS IS OF BULK AT MOST 1048576: true; the input reads as it did. -/
def idsetTellsUptoRow : OpenClaim := { program := "yteidimemlonjbaa", sum := "fe827f3d95c1c1e069924f3bbe29c766d1b751d0500204fd2778e38e0169d483", func := "tallyman/tallymanlaw17.IdsetTells", spec := "idsetTells", unfollowed := true, recurses := true, apart := false, narrowed := true }
def IdsetTellsUptoSaid : Prop := idsetTellsUptoRow.holds Try.pinned (OpenSpec.upto idsetTellsSpec)

/-- 'tallymanlaw17.IdsetLaws', WHERE WHAT IT READS IS OF BULK AT MOST 1048576: true; the input reads as it did. -/
def idsetLawsUptoRow : OpenClaim := { program := "yteidimemlonjbaa", sum := "fe827f3d95c1c1e069924f3bbe29c766d1b751d0500204fd2778e38e0169d483", func := "tallyman/tallymanlaw17.IdsetLaws", spec := "idsetLaws", unfollowed := true, recurses := true, apart := false, narrowed := true }
def IdsetLawsUptoSaid : Prop := idsetLawsUptoRow.holds Try.pinned (OpenSpec.upto idsetLawsSpec)

/-- 'tallymanlaw34.StepTells', WHERE WHAT IT READS IS OF BULK AT MOST 1048576: true; the input reads as it did. -/
def stepTellsUptoRow : OpenClaim := { program := "yteidimemlonjbaa", sum := "fe827f3d95c1c1e069924f3bbe29c766d1b751d0500204fd2778e38e0169d483", func := "tallyman/tallymanlaw34.StepTells", spec := "stepTells", unfollowed := true, recurses := true, apart := false, narrowed := true }
def StepTellsUptoSaid : Prop := stepTellsUptoRow.holds Try.pinned (OpenSpec.upto stepTellsSpec)

/-- 'tallymanlaw34.StepChains', WHERE WHAT IT READS IS OF BULK AT MOST 1048576: true; the input reads as it did. -/
def stepChainsUptoRow : OpenClaim := { program := "yteidimemlonjbaa", sum := "fe827f3d95c1c1e069924f3bbe29c766d1b751d0500204fd2778e38e0169d483", func := "tallyman/tallymanlaw34.StepChains", spec := "stepChains", unfollowed := true, recurses := true, apart := false, narrowed := true }
def StepChainsUptoSaid : Prop := stepChainsUptoRow.holds Try.pinned (OpenSpec.upto stepChainsSpec)

end Rows
end Go.Proofs.Yteidimemlonjbaa
