/- Functions of the seat in the small language. No conditions: a kit of our own. -/
import Derived.Test.YtnjpfoblmomnlaaProg
import Derived.Test.YtnjpfoblmomnlaaSx17
namespace Go.Proofs.Ytnjpfoblmomnlaa.Sx
open Go Go.RowKit
set_option linter.unusedVariables false

/-- slices.Clone(()int,int) -/
def ic_slices_Clone_int_int : ICode :=
 .seq (.ops 0 false [⟨some 2, .mv (.c (.nils)), none, false, false, [2]⟩])
 (.seq (.seq (.ops 1 false [⟨some 3, .mv (.t 0), none, false, false, []⟩,
  ⟨some 4, .eqnil false .s (.t 3), none, true, false, [3]⟩])
 (.cond (.t 4)
  (.seq (.ops 2 false [⟨some 2, .mv (.c (.nils)), none, false, false, []⟩])
  (.ret))
  (.skip)))
 (.seq (.ops 3 false [⟨some 5, .rowOwn 1 [], none, false, false, []⟩,
  ⟨some 6, .mv (.t 0), none, false, false, [0]⟩,
  ⟨some 7, .app 1 (.t 5) (.t 6), none, false, false, [5, 6]⟩,
  ⟨some 2, .mv (.t 7), none, false, false, [7]⟩])
 (.ret)))
def rs_slices_Clone_int_int : List IRes := [.t 2]
theorem ok_slices_Clone_int_int : fnOk Try.prog 103 ic_slices_Clone_int_int rs_slices_Clone_int_int 8 = true := by kernel_rfl

end Go.Proofs.Ytnjpfoblmomnlaa.Sx
