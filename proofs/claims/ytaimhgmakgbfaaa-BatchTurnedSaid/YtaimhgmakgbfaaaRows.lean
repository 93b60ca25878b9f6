/-
  No cell of these rows narrows 'for every input' (looked for: loops, veiled, ifaces, maps, wideKeys, modest, calm, conditions, laid).
  DERIVED. THE GIVEN ROWS OF THIS SEAT. 7 by the template 'for every input the law returns true; each argument reads behind the call as it read before'; 0 by the template 'total and deterministic' (their statements: YtaimhgmakgbfaaaTotals.lean).
  GIVEN WITH THE SEED: the statements are not yours to turn. If you find one false, say at which input.
  Laid BY PROGRAM, IN A SANDBOX (cutbox-rows.mjs): the forced cells as the released guide's own fill.sh prints them over the translation 4387bc3bafb5656e… (all of the seat's roots in one cut). By AI agents, Wed Nov 11 2026. No macro, syntax, notation, axiom, sorry.
-/
import Derived.Test.YtaimhgmakgbfaaaChecked
import GoSem.Claim
import GoSem.ClaimJoined
import GoSem.ClaimMapViews
import Derived.JoinedTies
import Derived.KernelRfl
namespace Go.Proofs.Ytaimhgmakgbfaaa
/- THE CELL 'sum', in the pinned program and in every row, IS THE sha256 OF THE DUMP (.gsa) THAT YtaimhgmakgbfaaaProg.lean LOADS. Nothing in Lean hashes anything: it is a label: what it is worth is what the hold of that sum in a sandbox is worth. -/
noncomputable def Try.pinned : Pinned := { name := "ytaimhgmakgbfaaa", sum := "4387bc3bafb5656eea17df0867953e5a38dbe99b22ef6be86f6428e6f8ef4816", checked := Try.checked }
namespace Rows
def none {H : Type} : Left H := { results := [], args := [] }

/-- 'tallymanlaw30.StateCopies': WHATEVER THE INPUT: true; the input reads as it did. -/
def stateCopiesSpec : ChangeSpec := { name := "stateCopies", fn := fun _ => fun
  | [d1, d2] => { results := [.lit (.bool true)], args := [d1, d2] }
  | _ => none }
def stateCopiesRow : OpenClaim := { program := "ytaimhgmakgbfaaa", sum := "4387bc3bafb5656eea17df0867953e5a38dbe99b22ef6be86f6428e6f8ef4816", func := "tallyman/tallymanlaw30.StateCopies", spec := "stateCopies", unfollowed := true, recurses := true, apart := false }
def StateCopiesSaid : Prop := stateCopiesRow.holds Try.pinned (OpenSpec.ofChange stateCopiesSpec)

/-- ITS FALSE NEIGHBOUR: 'it returns false'. Refute it at one input. -/
def stateCopiesWrong : ChangeSpec := { name := "stateCopies", fn := fun _ => fun
  | [d1, d2] => { results := [.lit (.bool false)], args := [d1, d2] }
  | _ => none }
def StateCopiesWrongFalsely : Prop := stateCopiesRow.holds Try.pinned (OpenSpec.ofChange stateCopiesWrong)

/-- 'tallymanlaw16.GraphOrders': WHATEVER THE INPUT: true; the input reads as it did. -/
def graphOrdersSpec : ChangeSpec := { name := "graphOrders", fn := fun _ => fun
  | [d1, d2] => { results := [.lit (.bool true)], args := [d1, d2] }
  | _ => none }
def graphOrdersRow : OpenClaim := { program := "ytaimhgmakgbfaaa", sum := "4387bc3bafb5656eea17df0867953e5a38dbe99b22ef6be86f6428e6f8ef4816", func := "tallyman/tallymanlaw16.GraphOrders", spec := "graphOrders", unfollowed := true, recurses := true, apart := false }
def GraphOrdersSaid : Prop := graphOrdersRow.holds Try.pinned (OpenSpec.ofChange graphOrdersSpec)

/-- ITS FALSE NEIGHBOUR: 'it returns false'. Refute it at one input. -/
def graphOrdersWrong : ChangeSpec := { name := "graphOrders", fn := fun _ => fun
  | [d1, d2] => { results := [.lit (.bool false)], args := [d1, d2] }
  | _ => none }
def GraphOrdersWrongFalsely : Prop := graphOrdersRow.holds Try.pinned (OpenSpec.ofChange graphOrdersWrong)

/-- 'tallymanlaw16.GraphReaches': WHATEVER THE INPUT: true; the input reads as it did. -/
def graphReachesSpec : ChangeSpec := { name := "graphReaches", fn := fun _ => fun
  | [d1, d2, d3] => { results := [.lit (.bool true)], args := [d1, d2, d3] }
  | _ => none }
def graphReachesRow : OpenClaim := { program := "ytaimhgmakgbfaaa", sum := "4387bc3bafb5656eea17df0867953e5a38dbe99b22ef6be86f6428e6f8ef4816", func := "tallyman/tallymanlaw16.GraphReaches", spec := "graphReaches", unfollowed := true, recurses := true, apart := false }
def GraphReachesSaid : Prop := graphReachesRow.holds Try.pinned (OpenSpec.ofChange graphReachesSpec)

/-- ITS FALSE NEIGHBOUR: 'it returns false'. Refute it at one input. -/
def graphReachesWrong : ChangeSpec := { name := "graphReaches", fn := fun _ => fun
  | [d1, d2, d3] => { results := [.lit (.bool false)], args := [d1, d2, d3] }
  | _ => none }
def GraphReachesWrongFalsely : Prop := graphReachesRow.holds Try.pinned (OpenSpec.ofChange graphReachesWrong)

/-- 'tallymanlaw16.GraphForward': WHATEVER THE INPUT: true; the input reads as it did. -/
def graphForwardSpec : ChangeSpec := { name := "graphForward", fn := fun _ => fun
  | [d1, d2, d3] => { results := [.lit (.bool true)], args := [d1, d2, d3] }
  | _ => none }
def graphForwardRow : OpenClaim := { program := "ytaimhgmakgbfaaa", sum := "4387bc3bafb5656eea17df0867953e5a38dbe99b22ef6be86f6428e6f8ef4816", func := "tallyman/tallymanlaw16.GraphForward", spec := "graphForward", unfollowed := true, recurses := true, apart := false }
def GraphForwardSaid : Prop := graphForwardRow.holds Try.pinned (OpenSpec.ofChange graphForwardSpec)

/-- ITS FALSE NEIGHBOUR: 'it returns false'. Refute it at one input. -/
def graphForwardWrong : ChangeSpec := { name := "graphForward", fn := fun _ => fun
  | [d1, d2, d3] => { results := [.lit (.bool false)], args := [d1, d2, d3] }
  | _ => none }
def GraphForwardWrongFalsely : Prop := graphForwardRow.holds Try.pinned (OpenSpec.ofChange graphForwardWrong)

/-- 'tallymanlaw21.WaitsTells': WHATEVER THE INPUT: true; the input reads as it did. -/
def waitsTellsSpec : ChangeSpec := { name := "waitsTells", fn := fun _ => fun
  | [d1, d2, d3] => { results := [.lit (.bool true)], args := [d1, d2, d3] }
  | _ => none }
def waitsTellsRow : OpenClaim := { program := "ytaimhgmakgbfaaa", sum := "4387bc3bafb5656eea17df0867953e5a38dbe99b22ef6be86f6428e6f8ef4816", func := "tallyman/tallymanlaw21.WaitsTells", spec := "waitsTells", unfollowed := true, recurses := true, apart := false }
def WaitsTellsSaid : Prop := waitsTellsRow.holds Try.pinned (OpenSpec.ofChange waitsTellsSpec)

/-- ITS FALSE NEIGHBOUR: 'it returns false'. Refute it at one input. -/
def waitsTellsWrong : ChangeSpec := { name := "waitsTells", fn := fun _ => fun
  | [d1, d2, d3] => { results := [.lit (.bool false)], args := [d1, d2, d3] }
  | _ => none }
def WaitsTellsWrongFalsely : Prop := waitsTellsRow.holds Try.pinned (OpenSpec.ofChange waitsTellsWrong)

/-- 'tallymanlaw23.BatchTurned': WHATEVER THE INPUT: true; the input reads as it did. -/
def batchTurnedSpec : ChangeSpec := { name := "batchTurned", fn := fun _ => fun
  | [d1, d2, d3, d4] => { results := [.lit (.bool true)], args := [d1, d2, d3, d4] }
  | _ => none }
def batchTurnedRow : OpenClaim := { program := "ytaimhgmakgbfaaa", sum := "4387bc3bafb5656eea17df0867953e5a38dbe99b22ef6be86f6428e6f8ef4816", func := "tallyman/tallymanlaw23.BatchTurned", spec := "batchTurned", unfollowed := true, recurses := true, apart := false }
def BatchTurnedSaid : Prop := batchTurnedRow.holds Try.pinned (OpenSpec.ofChange batchTurnedSpec)

/-- ITS FALSE NEIGHBOUR: 'it returns false'. Refute it at one input. -/
def batchTurnedWrong : ChangeSpec := { name := "batchTurned", fn := fun _ => fun
  | [d1, d2, d3, d4] => { results := [.lit (.bool false)], args := [d1, d2, d3, d4] }
  | _ => none }
def BatchTurnedWrongFalsely : Prop := batchTurnedRow.holds Try.pinned (OpenSpec.ofChange batchTurnedWrong)

/-- 'tallymanlaw23.BatchFull': WHATEVER THE INPUT: true; the input reads as it did. -/
def batchFullSpec : ChangeSpec := { name := "batchFull", fn := fun _ => fun
  | [d1, d2, d3] => { results := [.lit (.bool true)], args := [d1, d2, d3] }
  | _ => none }
def batchFullRow : OpenClaim := { program := "ytaimhgmakgbfaaa", sum := "4387bc3bafb5656eea17df0867953e5a38dbe99b22ef6be86f6428e6f8ef4816", func := "tallyman/tallymanlaw23.BatchFull", spec := "batchFull", unfollowed := true, recurses := true, apart := false }
def BatchFullSaid : Prop := batchFullRow.holds Try.pinned (OpenSpec.ofChange batchFullSpec)

/-- ITS FALSE NEIGHBOUR: 'it returns false'. Refute it at one input. -/
def batchFullWrong : ChangeSpec := { name := "batchFull", fn := fun _ => fun
  | [d1, d2, d3] => { results := [.lit (.bool false)], args := [d1, d2, d3] }
  | _ => none }
def BatchFullWrongFalsely : Prop := batchFullRow.holds Try.pinned (OpenSpec.ofChange batchFullWrong)

/- THE SECOND FORM. 'bulk': how many values and letters a reading holds, each counted each time it is reached (what is shared counts as often as it is met; a slice's spare places count too). A statement '..UptoSaid' is the law's where the arguments, and the package variables that the reading takes, are together of bulk at most 1048576: NARROWER than '..Said'. Prove '..Said' where nothing that the law and all that it calls make is longer than what came in: it says more and counts as full. Else prove '..UptoSaid'. A law counts once. -/
mutual
def uptoBulk {H : Type} : DataW H → Nat
  | .lit (.string bytes) => bytes.length + 1
  | .lit _ => 1
  | .nil => 1
  | .ptr d => uptoBulk d + 1
  | .slice elems spare => uptoBulkAll elems + uptoBulkAll spare + 1
  | .agg parts => uptoBulkAll parts + 1
  | .iface _ d => uptoBulk d + 1
  | .map entries => uptoBulkEntries entries + 1
  | .held _ => 1
def uptoBulkAll {H : Type} : List (DataW H) → Nat
  | [] => 0
  | d :: r => uptoBulk d + uptoBulkAll r
def uptoBulkEntries {H : Type} : List (Lit × DataW H) → Nat
  | [] => 0
  | x :: r => uptoBulkEntry x + uptoBulkEntries r
def uptoBulkEntry {H : Type} : Lit × DataW H → Nat
  | (.string bytes, d) => bytes.length + uptoBulk d + 1
  | (_, d) => uptoBulk d + 1
 end
def uptoSmall : (H : Type) → List (DataW H) → Bool := fun _ ds => decide (uptoBulkAll ds ≤ 1048576)
def OpenSpec.upto (s : _root_.Go.ChangeSpec) : _root_.Go.OpenSpec := { _root_.Go.OpenSpec.ofChange s with cond := some uptoSmall }

/-- 'tallymanlaw30.StateCopies', WHERE WHAT IT READS IS OF BULK AT MOST 1048576: true; the input reads as it did. -/
def stateCopiesUptoRow : OpenClaim := { program := "ytaimhgmakgbfaaa", sum := "4387bc3bafb5656eea17df0867953e5a38dbe99b22ef6be86f6428e6f8ef4816", func := "tallyman/tallymanlaw30.StateCopies", spec := "stateCopies", unfollowed := true, recurses := true, apart := false, narrowed := true }
def StateCopiesUptoSaid : Prop := stateCopiesUptoRow.holds Try.pinned (OpenSpec.upto stateCopiesSpec)

/-- 'tallymanlaw16.GraphOrders', WHERE WHAT IT READS IS OF BULK AT MOST 1048576: true; the input reads as it did. -/
def graphOrdersUptoRow : OpenClaim := { program := "ytaimhgmakgbfaaa", sum := "4387bc3bafb5656eea17df0867953e5a38dbe99b22ef6be86f6428e6f8ef4816", func := "tallyman/tallymanlaw16.GraphOrders", spec := "graphOrders", unfollowed := true, recurses := true, apart := false, narrowed := true }
def GraphOrdersUptoSaid : Prop := graphOrdersUptoRow.holds Try.pinned (OpenSpec.upto graphOrdersSpec)

/-- 'tallymanlaw16.GraphReaches', WHERE WHAT IT READS IS OF BULK AT MOST 1048576: true; the input reads as it did. -/
def graphReachesUptoRow : OpenClaim := { program := "ytaimhgmakgbfaaa", sum := "4387bc3bafb5656eea17df0867953e5a38dbe99b22ef6be86f6428e6f8ef4816", func := "tallyman/tallymanlaw16.GraphReaches", spec := "graphReaches", unfollowed := true, recurses := true, apart := false, narrowed := true }
def GraphReachesUptoSaid : Prop := graphReachesUptoRow.holds Try.pinned (OpenSpec.upto graphReachesSpec)

/-- 'tallymanlaw16.GraphForward', WHERE WHAT IT READS IS OF BULK AT MOST 1048576: true; the input reads as it did. -/
def graphForwardUptoRow : OpenClaim := { program := "ytaimhgmakgbfaaa", sum := "4387bc3bafb5656eea17df0867953e5a38dbe99b22ef6be86f6428e6f8ef4816", func := "tallyman/tallymanlaw16.GraphForward", spec := "graphForward", unfollowed := true, recurses := true, apart := false, narrowed := true }
def GraphForwardUptoSaid : Prop := graphForwardUptoRow.holds Try.pinned (OpenSpec.upto graphForwardSpec)

/-- 'tallymanlaw21.WaitsTells', WHERE WHAT IT READS IS OF BULK AT MOST 1048576: true; the input reads as it did. -/
def waitsTellsUptoRow : OpenClaim := { program := "ytaimhgmakgbfaaa", sum := "4387bc3bafb5656eea17df0867953e5a38dbe99b22ef6be86f6428e6f8ef4816", func := "tallyman/tallymanlaw21.WaitsTells", spec := "waitsTells", unfollowed := true, recurses := true, apart := false, narrowed := true }
def WaitsTellsUptoSaid : Prop := waitsTellsUptoRow.holds Try.pinned (OpenSpec.upto waitsTellsSpec)

/-- 'tallymanlaw23.BatchTurned', WHERE WHAT IT READS IS OF BULK AT MOST 1048576: true; the input reads as it did. -/
def batchTurnedUptoRow : OpenClaim := { program := "ytaimhgmakgbfaaa", sum := "4387bc3bafb5656eea17df0867953e5a38dbe99b22ef6be86f6428e6f8ef4816", func := "tallyman/tallymanlaw23.BatchTurned", spec := "batchTurned", unfollowed := true, recurses := true, apart := false, narrowed := true }
def BatchTurnedUptoSaid : Prop := batchTurnedUptoRow.holds Try.pinned (OpenSpec.upto batchTurnedSpec)

/-- 'tallymanlaw23.BatchFull', WHERE WHAT IT READS IS OF BULK AT MOST 1048576: true; the input reads as it did. -/
def batchFullUptoRow : OpenClaim := { program := "ytaimhgmakgbfaaa", sum := "4387bc3bafb5656eea17df0867953e5a38dbe99b22ef6be86f6428e6f8ef4816", func := "tallyman/tallymanlaw23.BatchFull", spec := "batchFull", unfollowed := true, recurses := true, apart := false, narrowed := true }
def BatchFullUptoSaid : Prop := batchFullUptoRow.holds Try.pinned (OpenSpec.upto batchFullSpec)

end Rows
end Go.Proofs.Ytaimhgmakgbfaaa
