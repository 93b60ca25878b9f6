/- Package graph: Reach. No conditions: a kit of our own. -/
import Derived.Test.YtnjpfoblmomnlaaFnGr6
namespace Go.Proofs.Ytnjpfoblmomnlaa.Sx
open Go Go.RowKit
open Hp (mget mput mdel HpS)
set_option linter.unusedVariables false
set_option linter.unusedSimpArgs false

/-- What waits: of one's own, or none. -/
def wvA (z : Nat) (pre wait : List Int) : AV := match z with
  | 0 => .view []
  | _ + 1 => .sl 3 pre.length wait.length
def wvO (z : Nat) (rs : List (List AV)) : AObj := match z with
  | 0 => .dead
  | _ + 1 => .rows 1 rs
@[simp] theorem wvA_zero (pre wait : List Int) : wvA 0 pre wait = .view [] := rfl
@[simp] theorem wvA_succ (z : Nat) (pre wait : List Int) : wvA (z + 1) pre wait = .sl 3 pre.length wait.length := rfl
@[simp] theorem wvO_zero (rs : List (List AV)) : wvO 0 rs = .dead := rfl
@[simp] theorem wvO_succ (z : Nat) (rs : List (List AV)) : wvO (z + 1) rs = .rows 1 rs := rfl
end Go.Proofs.Ytnjpfoblmomnlaa.Sx
