/- Functions of specs that hold them against each other and copy them. No conditions: a kit of our own. -/
import Derived.Test.YtjpgnicgapkndaaFnA1
import Derived.Test.YtjpgnicgapkndaaIrB
namespace Go.Proofs.Ytjpgnicgapkndaa.Sx
open Go Go.RowKit
set_option linter.unusedVariables false
set_option linter.unusedSimpArgs false

def cCloneI : Ctr := V1 (fun l : List Int => l.length ≤ 1073741824) fun l => en l
def plainOf (x : Spec) : Pln := ⟨x.ID, x.Prio, x.Skill, x.Gear, x.From, x.To⟩
def cTaskOf : Ctr := V1 (fun x : Spec => True) fun x => en (plainOf x)
def cTaskClone : Ctr := V1 (fun x : Spec => x.After.length ≤ 1073741824) fun x => en x
end Go.Proofs.Ytjpgnicgapkndaa.Sx
