/-
  No cell of these rows narrows 'for every input' (looked for: loops, veiled, ifaces, maps, wideKeys, modest, calm, conditions, laid).
  DERIVED. THE GIVEN ROWS OF THIS SEAT. 11 by the template 'for every input the law returns true; each argument reads behind the call as it read before'; 0 by the template 'total and deterministic' (their statements: YtnjpfoblmomnlaaTotals.lean).
  GIVEN WITH THE SEED: the statements are not yours to turn. If you find one false, say at which input.
  Laid BY PROGRAM, IN A SANDBOX (cutbox-rows.mjs): the forced cells as the released guide's own fill.sh prints them over the translation 51ba46ab9ad9b510… (all of the seat's roots in one cut). By AI agents, Wed Nov 11 2026. No macro, syntax, notation, axiom, sorry.
-/
import Derived.Test.YtnjpfoblmomnlaaChecked
import GoSem.Claim
import GoSem.ClaimJoined
import GoSem.ClaimMapViews
import Derived.JoinedTies
import Derived.KernelRfl
namespace Go.Proofs.Ytnjpfoblmomnlaa
/- THE CELL 'sum', in the pinned program and in every row, IS THE sha256 OF THE DUMP (.gsa) THAT YtnjpfoblmomnlaaProg.lean LOADS. Nothing in Lean hashes anything: it is a label: what it is worth is what the hold of that sum in a sandbox is worth. -/
noncomputable def Try.pinned : Pinned := { name := "ytnjpfoblmomnlaa", sum := "51ba46ab9ad9b510a6944cb7bc2c2e3a6127cb6681c525ea079c416488314f30", checked := Try.checked }
namespace Rows
def none {H : Type} : Left H := { results := [], args := [] }

/-- 'tallymanlaw30.StateCopies': WHATEVER THE INPUT: true; the input reads as it did. -/
def stateCopiesSpec : ChangeSpec := { name := "stateCopies", fn := fun _ => fun
  | [d1, d2] => { results := [.lit (.bool true)], args := [d1, d2] }
  | _ => none }
def stateCopiesRow : OpenClaim := { program := "ytnjpfoblmomnlaa", sum := "51ba46ab9ad9b510a6944cb7bc2c2e3a6127cb6681c525ea079c416488314f30", func := "tallyman/tallymanlaw30.StateCopies", spec := "stateCopies", unfollowed := true, recurses := true, apart := false }
def StateCopiesSaid : Prop := stateCopiesRow.holds Try.pinned (OpenSpec.ofChange stateCopiesSpec)

/-- ITS FALSE NEIGHBOUR: 'it returns false'. Refute it at one input. -/
def stateCopiesWrong : ChangeSpec := { name := "stateCopies", fn := fun _ => fun
  | [d1, d2] => { results := [.lit (.bool false)], args := [d1, d2] }
  | _ => none }
def StateCopiesWrongFalsely : Prop := stateCopiesRow.holds Try.pinned (OpenSpec.ofChange stateCopiesWrong)

/-- 'tallymanlaw21.WaitsTells': WHATEVER THE INPUT: true; the input reads as it did. -/
def waitsTellsSpec : ChangeSpec := { name := "waitsTells", fn := fun _ => fun
  | [d1, d2, d3] => { results := [.lit (.bool true)], args := [d1, d2, d3] }
  | _ => none }
def waitsTellsRow : OpenClaim := { program := "ytnjpfoblmomnlaa", sum := "51ba46ab9ad9b510a6944cb7bc2c2e3a6127cb6681c525ea079c416488314f30", func := "tallyman/tallymanlaw21.WaitsTells", spec := "waitsTells", unfollowed := true, recurses := true, apart := false }
def WaitsTellsSaid : Prop := waitsTellsRow.holds Try.pinned (OpenSpec.ofChange waitsTellsSpec)

/-- ITS FALSE NEIGHBOUR: 'it returns false'. Refute it at one input. -/
def waitsTellsWrong : ChangeSpec := { name := "waitsTells", fn := fun _ => fun
  | [d1, d2, d3] => { results := [.lit (.bool false)], args := [d1, d2, d3] }
  | _ => none }
def WaitsTellsWrongFalsely : Prop := waitsTellsRow.holds Try.pinned (OpenSpec.ofChange waitsTellsWrong)

/-- 'tallymanlaw21.WaitsTables': WHATEVER THE INPUT: true; the input reads as it did. -/
def waitsTablesSpec : ChangeSpec := { name := "waitsTables", fn := fun _ => fun
  | [d1, d2] => { results := [.lit (.bool true)], args := [d1, d2] }
  | _ => none }
def waitsTablesRow : OpenClaim := { program := "ytnjpfoblmomnlaa", sum := "51ba46ab9ad9b510a6944cb7bc2c2e3a6127cb6681c525ea079c416488314f30", func := "tallyman/tallymanlaw21.WaitsTables", spec := "waitsTables", unfollowed := true, recurses := true, apart := false }
def WaitsTablesSaid : Prop := waitsTablesRow.holds Try.pinned (OpenSpec.ofChange waitsTablesSpec)

/-- ITS FALSE NEIGHBOUR: 'it returns false'. Refute it at one input. -/
def waitsTablesWrong : ChangeSpec := { name := "waitsTables", fn := fun _ => fun
  | [d1, d2] => { results := [.lit (.bool false)], args := [d1, d2] }
  | _ => none }
def WaitsTablesWrongFalsely : Prop := waitsTablesRow.holds Try.pinned (OpenSpec.ofChange waitsTablesWrong)

/-- 'tallymanlaw20.AislesDoes': WHATEVER THE INPUT: true; the input reads as it did. -/
def aislesDoesSpec : ChangeSpec := { name := "aislesDoes", fn := fun _ => fun
  | [d1, d2] => { results := [.lit (.bool true)], args := [d1, d2] }
  | _ => none }
def aislesDoesRow : OpenClaim := { program := "ytnjpfoblmomnlaa", sum := "51ba46ab9ad9b510a6944cb7bc2c2e3a6127cb6681c525ea079c416488314f30", func := "tallyman/tallymanlaw20.AislesDoes", spec := "aislesDoes", unfollowed := true, recurses := true, apart := false }
def AislesDoesSaid : Prop := aislesDoesRow.holds Try.pinned (OpenSpec.ofChange aislesDoesSpec)

/-- ITS FALSE NEIGHBOUR: 'it returns false'. Refute it at one input. -/
def aislesDoesWrong : ChangeSpec := { name := "aislesDoes", fn := fun _ => fun
  | [d1, d2] => { results := [.lit (.bool false)], args := [d1, d2] }
  | _ => none }
def AislesDoesWrongFalsely : Prop := aislesDoesRow.holds Try.pinned (OpenSpec.ofChange aislesDoesWrong)

/-- 'tallymanlaw20.AislesSafe': WHATEVER THE INPUT: true; the input reads as it did. -/
def aislesSafeSpec : ChangeSpec := { name := "aislesSafe", fn := fun _ => fun
  | [d1, d2] => { results := [.lit (.bool true)], args := [d1, d2] }
  | _ => none }
def aislesSafeRow : OpenClaim := { program := "ytnjpfoblmomnlaa", sum := "51ba46ab9ad9b510a6944cb7bc2c2e3a6127cb6681c525ea079c416488314f30", func := "tallyman/tallymanlaw20.AislesSafe", spec := "aislesSafe", unfollowed := true, recurses := true, apart := false }
def AislesSafeSaid : Prop := aislesSafeRow.holds Try.pinned (OpenSpec.ofChange aislesSafeSpec)

/-- ITS FALSE NEIGHBOUR: 'it returns false'. Refute it at one input. -/
def aislesSafeWrong : ChangeSpec := { name := "aislesSafe", fn := fun _ => fun
  | [d1, d2] => { results := [.lit (.bool false)], args := [d1, d2] }
  | _ => none }
def AislesSafeWrongFalsely : Prop := aislesSafeRow.holds Try.pinned (OpenSpec.ofChange aislesSafeWrong)

/-- 'tallymanlaw20.AislesGoes': WHATEVER THE INPUT: true; the input reads as it did. -/
def aislesGoesSpec : ChangeSpec := { name := "aislesGoes", fn := fun _ => fun
  | [d1, d2] => { results := [.lit (.bool true)], args := [d1, d2] }
  | _ => none }
def aislesGoesRow : OpenClaim := { program := "ytnjpfoblmomnlaa", sum := "51ba46ab9ad9b510a6944cb7bc2c2e3a6127cb6681c525ea079c416488314f30", func := "tallyman/tallymanlaw20.AislesGoes", spec := "aislesGoes", unfollowed := true, recurses := true, apart := false }
def AislesGoesSaid : Prop := aislesGoesRow.holds Try.pinned (OpenSpec.ofChange aislesGoesSpec)

/-- ITS FALSE NEIGHBOUR: 'it returns false'. Refute it at one input. -/
def aislesGoesWrong : ChangeSpec := { name := "aislesGoes", fn := fun _ => fun
  | [d1, d2] => { results := [.lit (.bool false)], args := [d1, d2] }
  | _ => none }
def AislesGoesWrongFalsely : Prop := aislesGoesRow.holds Try.pinned (OpenSpec.ofChange aislesGoesWrong)

/-- 'tallymanlaw20.AislesLoads': WHATEVER THE INPUT: true; the input reads as it did. -/
def aislesLoadsSpec : ChangeSpec := { name := "aislesLoads", fn := fun _ => fun
  | [d1, d2, d3] => { results := [.lit (.bool true)], args := [d1, d2, d3] }
  | _ => none }
def aislesLoadsRow : OpenClaim := { program := "ytnjpfoblmomnlaa", sum := "51ba46ab9ad9b510a6944cb7bc2c2e3a6127cb6681c525ea079c416488314f30", func := "tallyman/tallymanlaw20.AislesLoads", spec := "aislesLoads", unfollowed := true, recurses := true, apart := false }
def AislesLoadsSaid : Prop := aislesLoadsRow.holds Try.pinned (OpenSpec.ofChange aislesLoadsSpec)

/-- ITS FALSE NEIGHBOUR: 'it returns false'. Refute it at one input. -/
def aislesLoadsWrong : ChangeSpec := { name := "aislesLoads", fn := fun _ => fun
  | [d1, d2, d3] => { results := [.lit (.bool false)], args := [d1, d2, d3] }
  | _ => none }
def AislesLoadsWrongFalsely : Prop := aislesLoadsRow.holds Try.pinned (OpenSpec.ofChange aislesLoadsWrong)

/-- 'tallymanlaw25.RosterDoes': WHATEVER THE INPUT: true; the input reads as it did. -/
def rosterDoesSpec : ChangeSpec := { name := "rosterDoes", fn := fun _ => fun
  | [d1, d2, d3, d4] => { results := [.lit (.bool true)], args := [d1, d2, d3, d4] }
  | _ => none }
def rosterDoesRow : OpenClaim := { program := "ytnjpfoblmomnlaa", sum := "51ba46ab9ad9b510a6944cb7bc2c2e3a6127cb6681c525ea079c416488314f30", func := "tallyman/tallymanlaw25.RosterDoes", spec := "rosterDoes", inPlace := ["slices.overlaps[tallyman/roster.entry]"], unfollowed := true, recurses := true, apart := false }
def RosterDoesSaid : Prop := rosterDoesRow.holds Try.pinned (OpenSpec.ofChange rosterDoesSpec)

/-- ITS FALSE NEIGHBOUR: 'it returns false'. Refute it at one input. -/
def rosterDoesWrong : ChangeSpec := { name := "rosterDoes", fn := fun _ => fun
  | [d1, d2, d3, d4] => { results := [.lit (.bool false)], args := [d1, d2, d3, d4] }
  | _ => none }
def RosterDoesWrongFalsely : Prop := rosterDoesRow.holds Try.pinned (OpenSpec.ofChange rosterDoesWrong)

/-- 'tallymanlaw25.RosterPicks': WHATEVER THE INPUT: true; the input reads as it did. -/
def rosterPicksSpec : ChangeSpec := { name := "rosterPicks", fn := fun _ => fun
  | [d1, d2, d3] => { results := [.lit (.bool true)], args := [d1, d2, d3] }
  | _ => none }
def rosterPicksRow : OpenClaim := { program := "ytnjpfoblmomnlaa", sum := "51ba46ab9ad9b510a6944cb7bc2c2e3a6127cb6681c525ea079c416488314f30", func := "tallyman/tallymanlaw25.RosterPicks", spec := "rosterPicks", inPlace := ["slices.overlaps[tallyman/roster.entry]"], unfollowed := true, recurses := true, apart := false }
def RosterPicksSaid : Prop := rosterPicksRow.holds Try.pinned (OpenSpec.ofChange rosterPicksSpec)

/-- ITS FALSE NEIGHBOUR: 'it returns false'. Refute it at one input. -/
def rosterPicksWrong : ChangeSpec := { name := "rosterPicks", fn := fun _ => fun
  | [d1, d2, d3] => { results := [.lit (.bool false)], args := [d1, d2, d3] }
  | _ => none }
def RosterPicksWrongFalsely : Prop := rosterPicksRow.holds Try.pinned (OpenSpec.ofChange rosterPicksWrong)

/-- 'tallymanlaw24.DagRuns': WHATEVER THE INPUT: true; the input reads as it did. -/
def dagRunsSpec : ChangeSpec := { name := "dagRuns", fn := fun _ => fun
  | [d] => { results := [.lit (.bool true)], args := [d] }
  | _ => none }
def dagRunsRow : OpenClaim := { program := "ytnjpfoblmomnlaa", sum := "51ba46ab9ad9b510a6944cb7bc2c2e3a6127cb6681c525ea079c416488314f30", func := "tallyman/tallymanlaw24.DagRuns", spec := "dagRuns", unfollowed := true, recurses := true, apart := false }
def DagRunsSaid : Prop := dagRunsRow.holds Try.pinned (OpenSpec.ofChange dagRunsSpec)

/-- ITS FALSE NEIGHBOUR: 'it returns false'. Refute it at one input. -/
def dagRunsWrong : ChangeSpec := { name := "dagRuns", fn := fun _ => fun
  | [d] => { results := [.lit (.bool false)], args := [d] }
  | _ => none }
def DagRunsWrongFalsely : Prop := dagRunsRow.holds Try.pinned (OpenSpec.ofChange dagRunsWrong)

/-- 'tallymanlaw24.DagSafe': WHATEVER THE INPUT: true; the input reads as it did. -/
def dagSafeSpec : ChangeSpec := { name := "dagSafe", fn := fun _ => fun
  | [d] => { results := [.lit (.bool true)], args := [d] }
  | _ => none }
def dagSafeRow : OpenClaim := { program := "ytnjpfoblmomnlaa", sum := "51ba46ab9ad9b510a6944cb7bc2c2e3a6127cb6681c525ea079c416488314f30", func := "tallyman/tallymanlaw24.DagSafe", spec := "dagSafe", unfollowed := true, recurses := true, apart := false }
def DagSafeSaid : Prop := dagSafeRow.holds Try.pinned (OpenSpec.ofChange dagSafeSpec)

/-- ITS FALSE NEIGHBOUR: 'it returns false'. Refute it at one input. -/
def dagSafeWrong : ChangeSpec := { name := "dagSafe", fn := fun _ => fun
  | [d] => { results := [.lit (.bool false)], args := [d] }
  | _ => none }
def DagSafeWrongFalsely : Prop := dagSafeRow.holds Try.pinned (OpenSpec.ofChange dagSafeWrong)

/- THE SECOND FORM. 'bulk': how many values and letters a reading holds, each counted each time it is reached (what is shared counts as often as it is met; a slice's spare places count too). A statement '..UptoSaid' is the law's where the arguments, and the package variables that the reading takes, are together of bulk at most 1048576: NARROWER than '..Said'. Prove '..Said' where nothing that the law and all that it calls make is longer than what came in: it says more and counts as full. Else prove '..UptoSaid'. A law counts once. -/
mutual
def uptoBulk {H : Type} : DataW H → Nat
  | .lit (.string bytes) => bytes.length + 1
  | .lit _ => 1
  | .nil => 1
  | .ptr d => uptoBulk d + 1
  | .slice elems spare => uptoBulkAll elems + uptoBulkAll spare + 1
  | .agg parts => uptoBulkAll parts + 1
  | .iface _ d => uptoBulk d + 1
  | .map entries => uptoBulkEntries entries + 1
  | .held _ => 1
def uptoBulkAll {H : Type} : List (DataW H) → Nat
  | [] => 0
  | d :: r => uptoBulk d + uptoBulkAll r
def uptoBulkEntries {H : Type} : List (Lit × DataW H) → Nat
  | [] => 0
  | x :: r => uptoBulkEntry x + uptoBulkEntries r
def uptoBulkEntry {H : Type} : Lit × DataW H → Nat
  | (.string bytes, d) => bytes.length + uptoBulk d + 1
  | (_, d) => uptoBulk d + 1
 end
def uptoSmall : (H : Type) → List (DataW H) → Bool := fun _ ds => decide (uptoBulkAll ds ≤ 1048576)
def OpenSpec.upto (s : _root_.Go.ChangeSpec) : _root_.Go.OpenSpec := { _root_.Go.OpenSpec.ofChange s with cond := some uptoSmall }

/-- 'tallymanlaw30.StateCopies', WHERE WHAT IT READS IS OF BULK AT MOST 1048576: true; the input reads as it did. -/
def stateCopiesUptoRow : OpenClaim := { program := "ytnjpfoblmomnlaa", sum := "51ba46ab9ad9b510a6944cb7bc2c2e3a6127cb6681c525ea079c416488314f30", func := "tallyman/tallymanlaw30.StateCopies", spec := "stateCopies", unfollowed := true, recurses := true, apart := false, narrowed := true }
def StateCopiesUptoSaid : Prop := stateCopiesUptoRow.holds Try.pinned (OpenSpec.upto stateCopiesSpec)

/-- 'tallymanlaw21.WaitsTells', WHERE WHAT IT READS IS OF BULK AT MOST 1048576: true; the input reads as it did. -/
def waitsTellsUptoRow : OpenClaim := { program := "ytnjpfoblmomnlaa", sum := "51ba46ab9ad9b510a6944cb7bc2c2e3a6127cb6681c525ea079c416488314f30", func := "tallyman/tallymanlaw21.WaitsTells", spec := "waitsTells", unfollowed := true, recurses := true, apart := false, narrowed := true }
def WaitsTellsUptoSaid : Prop := waitsTellsUptoRow.holds Try.pinned (OpenSpec.upto waitsTellsSpec)

/-- 'tallymanlaw21.WaitsTables', WHERE WHAT IT READS IS OF BULK AT MOST 1048576: true; the input reads as it did. -/
def waitsTablesUptoRow : OpenClaim := { program := "ytnjpfoblmomnlaa", sum := "51ba46ab9ad9b510a6944cb7bc2c2e3a6127cb6681c525ea079c416488314f30", func := "tallyman/tallymanlaw21.WaitsTables", spec := "waitsTables", unfollowed := true, recurses := true, apart := false, narrowed := true }
def WaitsTablesUptoSaid : Prop := waitsTablesUptoRow.holds Try.pinned (OpenSpec.upto waitsTablesSpec)

/-- 'tallymanlaw20.AislesDoes', WHERE WHAT IT READS IS OF BULK AT MOST 1048576: true; the input reads as it did. -/
def aislesDoesUptoRow : OpenClaim := { program := "ytnjpfoblmomnlaa", sum := "51ba46ab9ad9b510a6944cb7bc2c2e3a6127cb6681c525ea079c416488314f30", func := "tallyman/tallymanlaw20.AislesDoes", spec := "aislesDoes", unfollowed := true, recurses := true, apart := false, narrowed := true }
def AislesDoesUptoSaid : Prop := aislesDoesUptoRow.holds Try.pinned (OpenSpec.upto aislesDoesSpec)

/-- 'tallymanlaw20.AislesSafe', WHERE WHAT IT READS IS OF BULK AT MOST 1048576: true; the input reads as it did. -/
def aislesSafeUptoRow : OpenClaim := { program := "ytnjpfoblmomnlaa", sum := "51ba46ab9ad9b510a6944cb7bc2c2e3a6127cb6681c525ea079c416488314f30", func := "tallyman/tallymanlaw20.AislesSafe", spec := "aislesSafe", unfollowed := true, recurses := true, apart := false, narrowed := true }
def AislesSafeUptoSaid : Prop := aislesSafeUptoRow.holds Try.pinned (OpenSpec.upto aislesSafeSpec)

/-- 'tallymanlaw20.AislesGoes', WHERE WHAT IT READS IS OF BULK AT MOST 1048576: true; the input reads as it did. -/
def aislesGoesUptoRow : OpenClaim := { program := "ytnjpfoblmomnlaa", sum := "51ba46ab9ad9b510a6944cb7bc2c2e3a6127cb6681c525ea079c416488314f30", func := "tallyman/tallymanlaw20.AislesGoes", spec := "aislesGoes", unfollowed := true, recurses := true, apart := false, narrowed := true }
def AislesGoesUptoSaid : Prop := aislesGoesUptoRow.holds Try.pinned (OpenSpec.upto aislesGoesSpec)

/-- 'tallymanlaw20.AislesLoads', WHERE WHAT IT READS IS OF BULK AT MOST 1048576: true; the input reads as it did. -/
def aislesLoadsUptoRow : OpenClaim := { program := "ytnjpfoblmomnlaa", sum := "51ba46ab9ad9b510a6944cb7bc2c2e3a6127cb6681c525ea079c416488314f30", func := "tallyman/tallymanlaw20.AislesLoads", spec := "aislesLoads", unfollowed := true, recurses := true, apart := false, narrowed := true }
def AislesLoadsUptoSaid : Prop := aislesLoadsUptoRow.holds Try.pinned (OpenSpec.upto aislesLoadsSpec)

/-- 'tallymanlaw25.RosterDoes', WHERE WHAT IT READS IS OF BULK AT MOST 1048576: true; the input reads as it did. -/
def rosterDoesUptoRow : OpenClaim := { program := "ytnjpfoblmomnlaa", sum := "51ba46ab9ad9b510a6944cb7bc2c2e3a6127cb6681c525ea079c416488314f30", func := "tallyman/tallymanlaw25.RosterDoes", spec := "rosterDoes", inPlace := ["slices.overlaps[tallyman/roster.entry]"], unfollowed := true, recurses := true, apart := false, narrowed := true }
def RosterDoesUptoSaid : Prop := rosterDoesUptoRow.holds Try.pinned (OpenSpec.upto rosterDoesSpec)

/-- 'tallymanlaw25.RosterPicks', WHERE WHAT IT READS IS OF BULK AT MOST 1048576: true; the input reads as it did. -/
def rosterPicksUptoRow : OpenClaim := { program := "ytnjpfoblmomnlaa", sum := "51ba46ab9ad9b510a6944cb7bc2c2e3a6127cb6681c525ea079c416488314f30", func := "tallyman/tallymanlaw25.RosterPicks", spec := "rosterPicks", inPlace := ["slices.overlaps[tallyman/roster.entry]"], unfollowed := true, recurses := true, apart := false, narrowed := true }
def RosterPicksUptoSaid : Prop := rosterPicksUptoRow.holds Try.pinned (OpenSpec.upto rosterPicksSpec)

/-- 'tallymanlaw24.DagRuns', WHERE WHAT IT READS IS OF BULK AT MOST 1048576: true; the input reads as it did. -/
def dagRunsUptoRow : OpenClaim := { program := "ytnjpfoblmomnlaa", sum := "51ba46ab9ad9b510a6944cb7bc2c2e3a6127cb6681c525ea079c416488314f30", func := "tallyman/tallymanlaw24.DagRuns", spec := "dagRuns", unfollowed := true, recurses := true, apart := false, narrowed := true }
def DagRunsUptoSaid : Prop := dagRunsUptoRow.holds Try.pinned (OpenSpec.upto dagRunsSpec)

/-- 'tallymanlaw24.DagSafe', WHERE WHAT IT READS IS OF BULK AT MOST 1048576: true; the input reads as it did. -/
def dagSafeUptoRow : OpenClaim := { program := "ytnjpfoblmomnlaa", sum := "51ba46ab9ad9b510a6944cb7bc2c2e3a6127cb6681c525ea079c416488314f30", func := "tallyman/tallymanlaw24.DagSafe", spec := "dagSafe", unfollowed := true, recurses := true, apart := false, narrowed := true }
def DagSafeUptoSaid : Prop := dagSafeUptoRow.holds Try.pinned (OpenSpec.upto dagSafeSpec)

end Rows
end Go.Proofs.Ytnjpfoblmomnlaa
