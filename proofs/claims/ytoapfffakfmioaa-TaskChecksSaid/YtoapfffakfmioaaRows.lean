/-
  No cell of these rows narrows 'for every input' (looked for: loops, veiled, ifaces, maps, wideKeys, modest, calm, conditions, laid).
  DERIVED. THE GIVEN ROWS OF THIS SEAT. 8 by the template 'for every input the law returns true; each argument reads behind the call as it read before'; 0 by the template 'total and deterministic' (their statements: YtoapfffakfmioaaTotals.lean).
  GIVEN WITH THE SEED: the statements are not yours to turn. If you find one false, say at which input.
  Laid BY PROGRAM, IN A SANDBOX (cutbox-rows.mjs): the forced cells as the released guide's own fill.sh prints them over the translation fe1c7b621119d6c9… (all of the seat's roots in one cut). By AI agents, Wed Nov 11 2026. No macro, syntax, notation, axiom, sorry.
-/
import Derived.Test.YtoapfffakfmioaaChecked
import GoSem.Claim
import GoSem.ClaimJoined
import GoSem.ClaimMapViews
import Derived.JoinedTies
import Derived.KernelRfl
namespace Go.Proofs.Ytoapfffakfmioaa
/- THE CELL 'sum', in the pinned program and in every row, IS THE sha256 OF THE DUMP (.gsa) THAT YtoapfffakfmioaaProg.lean LOADS. Nothing in Lean hashes anything: it is a label: what it is worth is what the hold of that sum in a sandbox is worth. -/
noncomputable def Try.pinned : Pinned := { name := "ytoapfffakfmioaa", sum := "fe1c7b621119d6c997b095644e8d2c630b0b75a849c33f285b322152d8ffdde0", checked := Try.checked }
namespace Rows
def none {H : Type} : Left H := { results := [], args := [] }

/-- 'tallymanlaw29.CodeCodes': WHATEVER THE INPUT: true; the input reads as it did. -/
def codeCodesSpec : ChangeSpec := { name := "codeCodes", fn := fun _ => fun
  | [d1, d2] => { results := [.lit (.bool true)], args := [d1, d2] }
  | _ => none }
def codeCodesRow : OpenClaim := { program := "ytoapfffakfmioaa", sum := "fe1c7b621119d6c997b095644e8d2c630b0b75a849c33f285b322152d8ffdde0", func := "tallyman/tallymanlaw29.CodeCodes", spec := "codeCodes", apart := false }
def CodeCodesSaid : Prop := codeCodesRow.holds Try.pinned (OpenSpec.ofChange codeCodesSpec)

/-- ITS FALSE NEIGHBOUR: 'it returns false'. Refute it at one input. -/
def codeCodesWrong : ChangeSpec := { name := "codeCodes", fn := fun _ => fun
  | [d1, d2] => { results := [.lit (.bool false)], args := [d1, d2] }
  | _ => none }
def CodeCodesWrongFalsely : Prop := codeCodesRow.holds Try.pinned (OpenSpec.ofChange codeCodesWrong)

/-- 'tallymanlaw29.CodeBack': WHATEVER THE INPUT: true; the input reads as it did. -/
def codeBackSpec : ChangeSpec := { name := "codeBack", fn := fun _ => fun
  | [d1, d2, d3] => { results := [.lit (.bool true)], args := [d1, d2, d3] }
  | _ => none }
def codeBackRow : OpenClaim := { program := "ytoapfffakfmioaa", sum := "fe1c7b621119d6c997b095644e8d2c630b0b75a849c33f285b322152d8ffdde0", func := "tallyman/tallymanlaw29.CodeBack", spec := "codeBack", apart := false }
def CodeBackSaid : Prop := codeBackRow.holds Try.pinned (OpenSpec.ofChange codeBackSpec)

/-- ITS FALSE NEIGHBOUR: 'it returns false'. Refute it at one input. -/
def codeBackWrong : ChangeSpec := { name := "codeBack", fn := fun _ => fun
  | [d1, d2, d3] => { results := [.lit (.bool false)], args := [d1, d2, d3] }
  | _ => none }
def CodeBackWrongFalsely : Prop := codeBackRow.holds Try.pinned (OpenSpec.ofChange codeBackWrong)

/-- 'tallymanlaw29.CodeSpecs': WHATEVER THE INPUT: true; the input reads as it did. -/
def codeSpecsSpec : ChangeSpec := { name := "codeSpecs", fn := fun _ => fun
  | [d1, d2] => { results := [.lit (.bool true)], args := [d1, d2] }
  | _ => none }
def codeSpecsRow : OpenClaim := { program := "ytoapfffakfmioaa", sum := "fe1c7b621119d6c997b095644e8d2c630b0b75a849c33f285b322152d8ffdde0", func := "tallyman/tallymanlaw29.CodeSpecs", spec := "codeSpecs", apart := false }
def CodeSpecsSaid : Prop := codeSpecsRow.holds Try.pinned (OpenSpec.ofChange codeSpecsSpec)

/-- ITS FALSE NEIGHBOUR: 'it returns false'. Refute it at one input. -/
def codeSpecsWrong : ChangeSpec := { name := "codeSpecs", fn := fun _ => fun
  | [d1, d2] => { results := [.lit (.bool false)], args := [d1, d2] }
  | _ => none }
def CodeSpecsWrongFalsely : Prop := codeSpecsRow.holds Try.pinned (OpenSpec.ofChange codeSpecsWrong)

/-- 'tallymanlaw30.StateCopies': WHATEVER THE INPUT: true; the input reads as it did. -/
def stateCopiesSpec : ChangeSpec := { name := "stateCopies", fn := fun _ => fun
  | [d1, d2] => { results := [.lit (.bool true)], args := [d1, d2] }
  | _ => none }
def stateCopiesRow : OpenClaim := { program := "ytoapfffakfmioaa", sum := "fe1c7b621119d6c997b095644e8d2c630b0b75a849c33f285b322152d8ffdde0", func := "tallyman/tallymanlaw30.StateCopies", spec := "stateCopies", unfollowed := true, recurses := true, apart := false }
def StateCopiesSaid : Prop := stateCopiesRow.holds Try.pinned (OpenSpec.ofChange stateCopiesSpec)

/-- ITS FALSE NEIGHBOUR: 'it returns false'. Refute it at one input. -/
def stateCopiesWrong : ChangeSpec := { name := "stateCopies", fn := fun _ => fun
  | [d1, d2] => { results := [.lit (.bool false)], args := [d1, d2] }
  | _ => none }
def StateCopiesWrongFalsely : Prop := stateCopiesRow.holds Try.pinned (OpenSpec.ofChange stateCopiesWrong)

/-- 'tallymanlaw30.StateFinds': WHATEVER THE INPUT: true; the input reads as it did. -/
def stateFindsSpec : ChangeSpec := { name := "stateFinds", fn := fun _ => fun
  | [d1, d2] => { results := [.lit (.bool true)], args := [d1, d2] }
  | _ => none }
def stateFindsRow : OpenClaim := { program := "ytoapfffakfmioaa", sum := "fe1c7b621119d6c997b095644e8d2c630b0b75a849c33f285b322152d8ffdde0", func := "tallyman/tallymanlaw30.StateFinds", spec := "stateFinds", unfollowed := true, recurses := true, apart := false }
def StateFindsSaid : Prop := stateFindsRow.holds Try.pinned (OpenSpec.ofChange stateFindsSpec)

/-- ITS FALSE NEIGHBOUR: 'it returns false'. Refute it at one input. -/
def stateFindsWrong : ChangeSpec := { name := "stateFinds", fn := fun _ => fun
  | [d1, d2] => { results := [.lit (.bool false)], args := [d1, d2] }
  | _ => none }
def StateFindsWrongFalsely : Prop := stateFindsRow.holds Try.pinned (OpenSpec.ofChange stateFindsWrong)

/-- 'tallymanlaw22.TaskChecks': WHATEVER THE INPUT: true; the input reads as it did. -/
def taskChecksSpec : ChangeSpec := { name := "taskChecks", fn := fun _ => fun
  | [d1, d2] => { results := [.lit (.bool true)], args := [d1, d2] }
  | _ => none }
def taskChecksRow : OpenClaim := { program := "ytoapfffakfmioaa", sum := "fe1c7b621119d6c997b095644e8d2c630b0b75a849c33f285b322152d8ffdde0", func := "tallyman/tallymanlaw22.TaskChecks", spec := "taskChecks", unfollowed := true, recurses := true, apart := false }
def TaskChecksSaid : Prop := taskChecksRow.holds Try.pinned (OpenSpec.ofChange taskChecksSpec)

/-- ITS FALSE NEIGHBOUR: 'it returns false'. Refute it at one input. -/
def taskChecksWrong : ChangeSpec := { name := "taskChecks", fn := fun _ => fun
  | [d1, d2] => { results := [.lit (.bool false)], args := [d1, d2] }
  | _ => none }
def TaskChecksWrongFalsely : Prop := taskChecksRow.holds Try.pinned (OpenSpec.ofChange taskChecksWrong)

/-- 'tallymanlaw22.TaskWants': WHATEVER THE INPUT: true; the input reads as it did. -/
def taskWantsSpec : ChangeSpec := { name := "taskWants", fn := fun _ => fun
  | [d1, d2, d3, d4, d5] => { results := [.lit (.bool true)], args := [d1, d2, d3, d4, d5] }
  | _ => none }
def taskWantsRow : OpenClaim := { program := "ytoapfffakfmioaa", sum := "fe1c7b621119d6c997b095644e8d2c630b0b75a849c33f285b322152d8ffdde0", func := "tallyman/tallymanlaw22.TaskWants", spec := "taskWants", unfollowed := true, recurses := true, apart := false }
def TaskWantsSaid : Prop := taskWantsRow.holds Try.pinned (OpenSpec.ofChange taskWantsSpec)

/-- ITS FALSE NEIGHBOUR: 'it returns false'. Refute it at one input. -/
def taskWantsWrong : ChangeSpec := { name := "taskWants", fn := fun _ => fun
  | [d1, d2, d3, d4, d5] => { results := [.lit (.bool false)], args := [d1, d2, d3, d4, d5] }
  | _ => none }
def TaskWantsWrongFalsely : Prop := taskWantsRow.holds Try.pinned (OpenSpec.ofChange taskWantsWrong)

/-- 'tallymanlaw22.TaskAsks': WHATEVER THE INPUT: true; the input reads as it did. -/
def taskAsksSpec : ChangeSpec := { name := "taskAsks", fn := fun _ => fun
  | [d1, d2, d3, d4, d5] => { results := [.lit (.bool true)], args := [d1, d2, d3, d4, d5] }
  | _ => none }
def taskAsksRow : OpenClaim := { program := "ytoapfffakfmioaa", sum := "fe1c7b621119d6c997b095644e8d2c630b0b75a849c33f285b322152d8ffdde0", func := "tallyman/tallymanlaw22.TaskAsks", spec := "taskAsks", unfollowed := true, recurses := true, apart := false }
def TaskAsksSaid : Prop := taskAsksRow.holds Try.pinned (OpenSpec.ofChange taskAsksSpec)

/-- ITS FALSE NEIGHBOUR: 'it returns false'. Refute it at one input. -/
def taskAsksWrong : ChangeSpec := { name := "taskAsks", fn := fun _ => fun
  | [d1, d2, d3, d4, d5] => { results := [.lit (.bool false)], args := [d1, d2, d3, d4, d5] }
  | _ => none }
def TaskAsksWrongFalsely : Prop := taskAsksRow.holds Try.pinned (OpenSpec.ofChange taskAsksWrong)

/- THE SECOND FORM. 'bulk': how many values and letters a reading holds, each counted each time it is reached (what is shared counts as often as it is met; a slice's spare places count too). A statement '..UptoSaid' is the law's where the arguments, and the package variables that the reading takes, are together of bulk at most 1048576: NARROWER than '..Said'. Prove '..Said' where nothing that the law and all that it calls make is longer than what came in: it says more and counts as full. Else prove '..UptoSaid'. A law counts once. -/
mutual
def uptoBulk {H : Type} : DataW H → Nat
  | .lit (.string bytes) => bytes.length + 1
  | .lit _ => 1
  | .nil => 1
  | .ptr d => uptoBulk d + 1
  | .slice elems spare => uptoBulkAll elems + uptoBulkAll spare + 1
  | .agg parts => uptoBulkAll parts + 1
  | .iface _ d => uptoBulk d + 1
  | .map entries => uptoBulkEntries entries + 1
  | .held _ => 1
def uptoBulkAll {H : Type} : List (DataW H) → Nat
  | [] => 0
  | d :: r => uptoBulk d + uptoBulkAll r
def uptoBulkEntries {H : Type} : List (Lit × DataW H) → Nat
  | [] => 0
  | x :: r => uptoBulkEntry x + uptoBulkEntries r
def uptoBulkEntry {H : Type} : Lit × DataW H → Nat
  | (.string bytes, d) => bytes.length + uptoBulk d + 1
  | (_, d) => uptoBulk d + 1
 end
def uptoSmall : (H : Type) → List (DataW H) → Bool := fun _ ds => decide (uptoBulkAll ds ≤ 1048576)
def OpenSpec.upto (s : _root_.Go.ChangeSpec) : _root_.Go.OpenSpec := { _root_.Go.OpenSpec.ofChange s with cond := some uptoSmall }

/-- 'tallymanlaw29.CodeCodes', WHERE WHAT IT READS IS OF BULK AT MOST 1048576: true; the input reads as it did. -/
def codeCodesUptoRow : OpenClaim := { program := "ytoapfffakfmioaa", sum := "fe1c7b621119d6c997b095644e8d2c630b0b75a849c33f285b322152d8ffdde0", func := "tallyman/tallymanlaw29.CodeCodes", spec := "codeCodes", apart := false, narrowed := true }
def CodeCodesUptoSaid : Prop := codeCodesUptoRow.holds Try.pinned (OpenSpec.upto codeCodesSpec)

/-- 'tallymanlaw29.CodeBack', WHERE WHAT IT READS IS OF BULK AT MOST 1048576: true; the input reads as it did. -/
def codeBackUptoRow : OpenClaim := { program := "ytoapfffakfmioaa", sum := "fe1c7b621119d6c997b095644e8d2c630b0b75a849c33f285b322152d8ffdde0", func := "tallyman/tallymanlaw29.CodeBack", spec := "codeBack", apart := false, narrowed := true }
def CodeBackUptoSaid : Prop := codeBackUptoRow.holds Try.pinned (OpenSpec.upto codeBackSpec)

/-- 'tallymanlaw29.CodeSpecs', WHERE WHAT IT READS IS OF BULK AT MOST 1048576: true; the input reads as it did. -/
def codeSpecsUptoRow : OpenClaim := { program := "ytoapfffakfmioaa", sum := "fe1c7b621119d6c997b095644e8d2c630b0b75a849c33f285b322152d8ffdde0", func := "tallyman/tallymanlaw29.CodeSpecs", spec := "codeSpecs", apart := false, narrowed := true }
def CodeSpecsUptoSaid : Prop := codeSpecsUptoRow.holds Try.pinned (OpenSpec.upto codeSpecsSpec)

/-- 'tallymanlaw30.StateCopies', WHERE WHAT IT READS IS OF BULK AT MOST 1048576: true; the input reads as it did. -/
def stateCopiesUptoRow : OpenClaim := { program := "ytoapfffakfmioaa", sum := "fe1c7b621119d6c997b095644e8d2c630b0b75a849c33f285b322152d8ffdde0", func := "tallyman/tallymanlaw30.StateCopies", spec := "stateCopies", unfollowed := true, recurses := true, apart := false, narrowed := true }
def StateCopiesUptoSaid : Prop := stateCopiesUptoRow.holds Try.pinned (OpenSpec.upto stateCopiesSpec)

/-- 'tallymanlaw30.StateFinds', WHERE WHAT IT READS IS OF BULK AT MOST 1048576: true; the input reads as it did. -/
def stateFindsUptoRow : OpenClaim := { program := "ytoapfffakfmioaa", sum := "fe1c7b621119d6c997b095644e8d2c630b0b75a849c33f285b322152d8ffdde0", func := "tallyman/tallymanlaw30.StateFinds", spec := "stateFinds", unfollowed := true, recurses := true, apart := false, narrowed := true }
def StateFindsUptoSaid : Prop := stateFindsUptoRow.holds Try.pinned (OpenSpec.upto stateFindsSpec)

/-- 'tallymanlaw22.TaskChecks', WHERE WHAT IT READS IS OF BULK AT MOST 1048576: true; the input reads as it did. -/
def taskChecksUptoRow : OpenClaim := { program := "ytoapfffakfmioaa", sum := "fe1c7b621119d6c997b095644e8d2c630b0b75a849c33f285b322152d8ffdde0", func := "tallyman/tallymanlaw22.TaskChecks", spec := "taskChecks", unfollowed := true, recurses := true, apart := false, narrowed := true }
def TaskChecksUptoSaid : Prop := taskChecksUptoRow.holds Try.pinned (OpenSpec.upto taskChecksSpec)

/-- 'tallymanlaw22.TaskWants', WHERE WHAT IT READS IS OF BULK AT MOST 1048576: true; the input reads as it did. -/
def taskWantsUptoRow : OpenClaim := { program := "ytoapfffakfmioaa", sum := "fe1c7b621119d6c997b095644e8d2c630b0b75a849c33f285b322152d8ffdde0", func := "tallyman/tallymanlaw22.TaskWants", spec := "taskWants", unfollowed := true, recurses := true, apart := false, narrowed := true }
def TaskWantsUptoSaid : Prop := taskWantsUptoRow.holds Try.pinned (OpenSpec.upto taskWantsSpec)

/-- 'tallymanlaw22.TaskAsks', WHERE WHAT IT READS IS OF BULK AT MOST 1048576: true; the input reads as it did. -/
def taskAsksUptoRow : OpenClaim := { program := "ytoapfffakfmioaa", sum := "fe1c7b621119d6c997b095644e8d2c630b0b75a849c33f285b322152d8ffdde0", func := "tallyman/tallymanlaw22.TaskAsks", spec := "taskAsks", unfollowed := true, recurses := true, apart := false, narrowed := true }
def TaskAsksUptoSaid : Prop := taskAsksUptoRow.holds Try.pinned (OpenSpec.upto taskAsksSpec)

end Rows
end Go.Proofs.Ytoapfffakfmioaa
