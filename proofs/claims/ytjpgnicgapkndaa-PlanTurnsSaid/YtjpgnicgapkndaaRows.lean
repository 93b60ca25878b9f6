/-
  No cell of these rows narrows 'for every input' (looked for: loops, veiled, ifaces, maps, wideKeys, modest, calm, conditions, laid).
  DERIVED. THE GIVEN ROWS OF THIS SEAT. 5 by the template 'for every input the law returns true; each argument reads behind the call as it read before'; 0 by the template 'total and deterministic' (their statements: YtjpgnicgapkndaaTotals.lean).
  GIVEN WITH THE SEED: the statements are not yours to turn. If you find one false, say at which input.
  Laid BY PROGRAM, IN A SANDBOX (cutbox-rows.mjs): the forced cells as the released guide's own fill.sh prints them over the translation d35e052063bfc947… (all of the seat's roots in one cut). By AI agents, Wed Nov 11 2026. No macro, syntax, notation, axiom, sorry.
-/
import Derived.Test.YtjpgnicgapkndaaChecked
import GoSem.Claim
import GoSem.ClaimJoined
import GoSem.ClaimMapViews
import Derived.JoinedTies
import Derived.KernelRfl
namespace Go.Proofs.Ytjpgnicgapkndaa
/- THE CELL 'sum', in the pinned program and in every row, IS THE sha256 OF THE DUMP (.gsa) THAT YtjpgnicgapkndaaProg.lean LOADS. Nothing in Lean hashes anything: it is a label: what it is worth is what the hold of that sum in a sandbox is worth. -/
noncomputable def Try.pinned : Pinned := { name := "ytjpgnicgapkndaa", sum := "d35e052063bfc947bf893bfbcaad51dc1a2e132bce2d9a6f4971ba820b103d62", checked := Try.checked }
namespace Rows
def none {H : Type} : Left H := { results := [], args := [] }

/-- 'tallymanlaw07.PlanTells': WHATEVER THE INPUT: true; the input reads as it did. -/
def planTellsSpec : ChangeSpec := { name := "planTells", fn := fun _ => fun
  | [d1, d2, d3, d4] => { results := [.lit (.bool true)], args := [d1, d2, d3, d4] }
  | _ => none }
def planTellsRow : OpenClaim := { program := "ytjpgnicgapkndaa", sum := "d35e052063bfc947bf893bfbcaad51dc1a2e132bce2d9a6f4971ba820b103d62", func := "tallyman/tallymanlaw07.PlanTells", spec := "planTells", unfollowed := true, recurses := true, apart := false }
def PlanTellsSaid : Prop := planTellsRow.holds Try.pinned (OpenSpec.ofChange planTellsSpec)

/-- ITS FALSE NEIGHBOUR: 'it returns false'. Refute it at one input. -/
def planTellsWrong : ChangeSpec := { name := "planTells", fn := fun _ => fun
  | [d1, d2, d3, d4] => { results := [.lit (.bool false)], args := [d1, d2, d3, d4] }
  | _ => none }
def PlanTellsWrongFalsely : Prop := planTellsRow.holds Try.pinned (OpenSpec.ofChange planTellsWrong)

/-- 'tallymanlaw07.PlanRoutes': WHATEVER THE INPUT: true; the input reads as it did. -/
def planRoutesSpec : ChangeSpec := { name := "planRoutes", fn := fun _ => fun
  | [d1, d2, d3, d4] => { results := [.lit (.bool true)], args := [d1, d2, d3, d4] }
  | _ => none }
def planRoutesRow : OpenClaim := { program := "ytjpgnicgapkndaa", sum := "d35e052063bfc947bf893bfbcaad51dc1a2e132bce2d9a6f4971ba820b103d62", func := "tallyman/tallymanlaw07.PlanRoutes", spec := "planRoutes", unfollowed := true, recurses := true, apart := false }
def PlanRoutesSaid : Prop := planRoutesRow.holds Try.pinned (OpenSpec.ofChange planRoutesSpec)

/-- ITS FALSE NEIGHBOUR: 'it returns false'. Refute it at one input. -/
def planRoutesWrong : ChangeSpec := { name := "planRoutes", fn := fun _ => fun
  | [d1, d2, d3, d4] => { results := [.lit (.bool false)], args := [d1, d2, d3, d4] }
  | _ => none }
def PlanRoutesWrongFalsely : Prop := planRoutesRow.holds Try.pinned (OpenSpec.ofChange planRoutesWrong)

/-- 'tallymanlaw07.PlanMoved': WHATEVER THE INPUT: true; the input reads as it did. -/
def planMovedSpec : ChangeSpec := { name := "planMoved", fn := fun _ => fun
  | [d1, d2] => { results := [.lit (.bool true)], args := [d1, d2] }
  | _ => none }
def planMovedRow : OpenClaim := { program := "ytjpgnicgapkndaa", sum := "d35e052063bfc947bf893bfbcaad51dc1a2e132bce2d9a6f4971ba820b103d62", func := "tallyman/tallymanlaw07.PlanMoved", spec := "planMoved", unfollowed := true, recurses := true, apart := false }
def PlanMovedSaid : Prop := planMovedRow.holds Try.pinned (OpenSpec.ofChange planMovedSpec)

/-- ITS FALSE NEIGHBOUR: 'it returns false'. Refute it at one input. -/
def planMovedWrong : ChangeSpec := { name := "planMoved", fn := fun _ => fun
  | [d1, d2] => { results := [.lit (.bool false)], args := [d1, d2] }
  | _ => none }
def PlanMovedWrongFalsely : Prop := planMovedRow.holds Try.pinned (OpenSpec.ofChange planMovedWrong)

/-- 'tallymanlaw07.PlanTurns': WHATEVER THE INPUT: true; the input reads as it did. -/
def planTurnsSpec : ChangeSpec := { name := "planTurns", fn := fun _ => fun
  | [d1, d2, d3, d4, d5] => { results := [.lit (.bool true)], args := [d1, d2, d3, d4, d5] }
  | _ => none }
def planTurnsRow : OpenClaim := { program := "ytjpgnicgapkndaa", sum := "d35e052063bfc947bf893bfbcaad51dc1a2e132bce2d9a6f4971ba820b103d62", func := "tallyman/tallymanlaw07.PlanTurns", spec := "planTurns", unfollowed := true, recurses := true, apart := false }
def PlanTurnsSaid : Prop := planTurnsRow.holds Try.pinned (OpenSpec.ofChange planTurnsSpec)

/-- ITS FALSE NEIGHBOUR: 'it returns false'. Refute it at one input. -/
def planTurnsWrong : ChangeSpec := { name := "planTurns", fn := fun _ => fun
  | [d1, d2, d3, d4, d5] => { results := [.lit (.bool false)], args := [d1, d2, d3, d4, d5] }
  | _ => none }
def PlanTurnsWrongFalsely : Prop := planTurnsRow.holds Try.pinned (OpenSpec.ofChange planTurnsWrong)

/-- 'tallymanlaw07.PlanBack': WHATEVER THE INPUT: true; the input reads as it did. -/
def planBackSpec : ChangeSpec := { name := "planBack", fn := fun _ => fun
  | [d1, d2, d3] => { results := [.lit (.bool true)], args := [d1, d2, d3] }
  | _ => none }
def planBackRow : OpenClaim := { program := "ytjpgnicgapkndaa", sum := "d35e052063bfc947bf893bfbcaad51dc1a2e132bce2d9a6f4971ba820b103d62", func := "tallyman/tallymanlaw07.PlanBack", spec := "planBack", unfollowed := true, recurses := true, apart := false }
def PlanBackSaid : Prop := planBackRow.holds Try.pinned (OpenSpec.ofChange planBackSpec)

/-- ITS FALSE NEIGHBOUR: 'it returns false'. Refute it at one input. -/
def planBackWrong : ChangeSpec := { name := "planBack", fn := fun _ => fun
  | [d1, d2, d3] => { results := [.lit (.bool false)], args := [d1, d2, d3] }
  | _ => none }
def PlanBackWrongFalsely : Prop := planBackRow.holds Try.pinned (OpenSpec.ofChange planBackWrong)

/- THE SECOND FORM. 'bulk': how many values and letters a reading holds, each counted each time it is reached (what is shared counts as often as it is met; a slice's spare places count too). A statement '..UptoSaid' is the law's where the arguments, and the package variables that the reading takes, are together of bulk at most 1048576: NARROWER than '..Said'. Prove '..Said' where nothing that the law and all that it calls make is longer than what came in: it says more and counts as full. Else prove '..UptoSaid'. A law counts once. -/
mutual
def uptoBulk {H : Type} : DataW H → Nat
  | .lit (.string bytes) => bytes.length + 1
  | .lit _ => 1
  | .nil => 1
  | .ptr d => uptoBulk d + 1
  | .slice elems spare => uptoBulkAll elems + uptoBulkAll spare + 1
  | .agg parts => uptoBulkAll parts + 1
  | .iface _ d => uptoBulk d + 1
  | .map entries => uptoBulkEntries entries + 1
  | .held _ => 1
def uptoBulkAll {H : Type} : List (DataW H) → Nat
  | [] => 0
  | d :: r => uptoBulk d + uptoBulkAll r
def uptoBulkEntries {H : Type} : List (Lit × DataW H) → Nat
  | [] => 0
  | x :: r => uptoBulkEntry x + uptoBulkEntries r
def uptoBulkEntry {H : Type} : Lit × DataW H → Nat
  | (.string bytes, d) => bytes.length + uptoBulk d + 1
  | (_, d) => uptoBulk d + 1
 end
def uptoSmall : (H : Type) → List (DataW H) → Bool := fun _ ds => decide (uptoBulkAll ds ≤ 1048576)
def OpenSpec.upto (s : _root_.Go.ChangeSpec) : _root_.Go.OpenSpec := { _root_.Go.OpenSpec.ofChange s with cond := some uptoSmall }

/-- 'tallymanlaw07.PlanTells', WHERE WHAT IT READS IS OF BULK AT MOST 1048576: true; the input reads as it did. -/
def planTellsUptoRow : OpenClaim := { program := "ytjpgnicgapkndaa", sum := "d35e052063bfc947bf893bfbcaad51dc1a2e132bce2d9a6f4971ba820b103d62", func := "tallyman/tallymanlaw07.PlanTells", spec := "planTells", unfollowed := true, recurses := true, apart := false, narrowed := true }
def PlanTellsUptoSaid : Prop := planTellsUptoRow.holds Try.pinned (OpenSpec.upto planTellsSpec)

/-- 'tallymanlaw07.PlanRoutes', WHERE WHAT IT READS IS OF BULK AT MOST 1048576: true; the input reads as it did. -/
def planRoutesUptoRow : OpenClaim := { program := "ytjpgnicgapkndaa", sum := "d35e052063bfc947bf893bfbcaad51dc1a2e132bce2d9a6f4971ba820b103d62", func := "tallyman/tallymanlaw07.PlanRoutes", spec := "planRoutes", unfollowed := true, recurses := true, apart := false, narrowed := true }
def PlanRoutesUptoSaid : Prop := planRoutesUptoRow.holds Try.pinned (OpenSpec.upto planRoutesSpec)

/-- 'tallymanlaw07.PlanMoved', WHERE WHAT IT READS IS OF BULK AT MOST 1048576: true; the input reads as it did. -/
def planMovedUptoRow : OpenClaim := { program := "ytjpgnicgapkndaa", sum := "d35e052063bfc947bf893bfbcaad51dc1a2e132bce2d9a6f4971ba820b103d62", func := "tallyman/tallymanlaw07.PlanMoved", spec := "planMoved", unfollowed := true, recurses := true, apart := false, narrowed := true }
def PlanMovedUptoSaid : Prop := planMovedUptoRow.holds Try.pinned (OpenSpec.upto planMovedSpec)

/-- 'tallymanlaw07.PlanTurns', WHERE WHAT IT READS IS OF BULK AT MOST 1048576: true; the input reads as it did. -/
def planTurnsUptoRow : OpenClaim := { program := "ytjpgnicgapkndaa", sum := "d35e052063bfc947bf893bfbcaad51dc1a2e132bce2d9a6f4971ba820b103d62", func := "tallyman/tallymanlaw07.PlanTurns", spec := "planTurns", unfollowed := true, recurses := true, apart := false, narrowed := true }
def PlanTurnsUptoSaid : Prop := planTurnsUptoRow.holds Try.pinned (OpenSpec.upto planTurnsSpec)

/-- 'tallymanlaw07.PlanBack', WHERE WHAT IT READS IS OF BULK AT MOST 1048576: true; the input reads as it did. -/
def planBackUptoRow : OpenClaim := { program := "ytjpgnicgapkndaa", sum := "d35e052063bfc947bf893bfbcaad51dc1a2e132bce2d9a6f4971ba820b103d62", func := "tallyman/tallymanlaw07.PlanBack", spec := "planBack", unfollowed := true, recurses := true, apart := false, narrowed := true }
def PlanBackUptoSaid : Prop := planBackUptoRow.holds Try.pinned (OpenSpec.upto planBackSpec)

end Rows
end Go.Proofs.Ytjpgnicgapkndaa
