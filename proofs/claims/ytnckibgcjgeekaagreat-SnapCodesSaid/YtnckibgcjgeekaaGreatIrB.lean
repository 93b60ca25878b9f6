/- Functions of the seat in the small language. No conditions: a kit of our own. -/
import Derived.Test.YtnckibgcjgeekaaGreatProg
import Derived.Test.YtnckibgcjgeekaaGreatSx17
namespace Go.Proofs.YtnckibgcjgeekaaGreat.Sx
open Go Go.RowKit
set_option linter.unusedVariables false

/-- slices.Equal(()int,int) -/
def ic_slices_Equal_int_int : ICode :=
 .seq (.ops 0 false [⟨some 4, .mv (.c (.bool false)), none, false, false, [4]⟩])
 (.seq (.seq (.ops 1 false [⟨some 6, .mv (.t 0), none, false, false, []⟩,
  ⟨some 7, .len (.t 6), none, false, false, [6]⟩,
  ⟨some 8, .mv (.t 1), none, false, false, []⟩,
  ⟨some 9, .len (.t 8), none, false, false, [8]⟩,
  ⟨some 10, .bin .neq (.t 7) (.t 9), none, false, false, [7, 9]⟩])
 (.cond (.t 10)
  (.seq (.ops 2 false [⟨some 4, .mv (.c (.bool false)), none, false, false, []⟩])
  (.ret))
  (.skip)))
 (.seq (.seq (.ops 3 false [⟨some 11, .mv (.t 0), none, false, false, []⟩,
  ⟨some 12, .len (.t 11), none, false, false, [11]⟩,
  ⟨some 13, .mv (.c (.int .i64 0)), none, false, false, []⟩])
 (.block 0 (.loop [0, 1, 12, 13] (.seq (.ops 4 false [⟨some 14, .bin .lss (.t 13) (.t 12), none, false, false, []⟩])
   (.seq (.cond (.t 14)
    (.skip)
    (.exit 0))
   (.seq (.block 1 (.seq (.ops 5 false [⟨some 15, .mv (.t 13), none, false, false, []⟩,
     ⟨some 5, .mv (.t 15), none, false, false, [15]⟩])
    (.seq (.ops 6 true [⟨some 16, .mv (.t 0), none, false, false, []⟩,
     ⟨some 17, .mv (.t 5), none, false, false, []⟩,
     ⟨some 18, .ia 1 [.int .i64 0] (.t 16) (.t 17), none, false, false, [16, 17]⟩,
     ⟨some 19, .ld none [.int .i64 0] (.t 18), none, false, false, [18]⟩,
     ⟨some 20, .mv (.t 1), none, false, false, []⟩,
     ⟨some 21, .mv (.t 5), none, false, false, [5]⟩,
     ⟨some 22, .ia 1 [.int .i64 0] (.t 20) (.t 21), none, false, false, [20, 21]⟩,
     ⟨some 23, .ld none [.int .i64 0] (.t 22), none, false, false, [22]⟩,
     ⟨some 24, .bin .neq (.t 19) (.t 23), none, false, false, [19, 23]⟩])
    (.cond (.t 24)
     (.seq (.ops 7 false [⟨some 4, .mv (.c (.bool false)), none, false, false, []⟩])
     (.ret))
     (.skip)))))
   (.ops 8 false [⟨some 25, .bin .add (.t 13) (.c (.int .i64 1)), none, false, false, [13]⟩,
    ⟨some 13, .mv (.t 25), none, false, false, [25]⟩])))))))
 (.seq (.ops 9 false [⟨some 4, .mv (.c (.bool true)), none, false, false, []⟩])
 (.ret))))
def rs_slices_Equal_int_int : List IRes := [.t 4]
theorem ok_slices_Equal_int_int : fnOk Tryz.prog 108 ic_slices_Equal_int_int rs_slices_Equal_int_int 26 = true := by kernel_rfl

end Go.Proofs.YtnckibgcjgeekaaGreat.Sx
