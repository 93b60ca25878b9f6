/- Small functions of package state: closures that ask of numbers. No conditions: a kit of our own. -/
import Derived.Test.YtjpgnicgapkndaaFnB1
import Derived.Test.YtjpgnicgapkndaaIrC
import Derived.Test.YtjpgnicgapkndaaTy10
namespace Go.Proofs.Ytjpgnicgapkndaa.Sx
open Go Go.RowKit
set_option linter.unusedVariables false
set_option linter.unusedSimpArgs false

theorem low_vp1 {m : Nat} (n : Int) : Low m (.vp [.int .i64 n] 0) := Closed.seen (Cel.closed (⟨n⟩ : Bx Int) _ (by simp)) _ _
def inR (a b n : Int) : Bool := decide (a ≤ n) && decide (n ≤ b)
def cFrom1 : Ctr := C3 (fun (n : Int) (a b : Bx Int) => True) fun n a b => .bool (inR a.v b.v n)
end Go.Proofs.Ytjpgnicgapkndaa.Sx
