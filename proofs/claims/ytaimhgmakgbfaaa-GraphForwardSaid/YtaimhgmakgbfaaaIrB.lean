/- Functions of the seat in the small language. No conditions: a kit of our own. -/
import Derived.Test.YtaimhgmakgbfaaaProg
import Derived.Test.YtaimhgmakgbfaaaSx17
namespace Go.Proofs.Ytaimhgmakgbfaaa.Sx
open Go Go.RowKit
set_option linter.unusedVariables false

/-- slices.Clone(()int,int) -/
def ic_slices_Clone_int_int : ICode :=
 .seq (.ops 0 false [⟨some 2, .mv (.c (.nils)), none, false, false, [2]⟩])
 (.seq (.seq (.ops 1 false [⟨some 3, .mv (.t 0), none, false, false, []⟩,
  ⟨some 4, .eqnil false .s (.t 3), none, true, false, [3]⟩])
 (.cond (.t 4)
  (.seq (.ops 2 false [⟨some 2, .mv (.c (.nils)), none, false, false, []⟩])
  (.ret))
  (.skip)))
 (.seq (.ops 3 false [⟨some 5, .rowOwn 1 [], none, false, false, []⟩,
  ⟨some 6, .mv (.t 0), none, false, false, [0]⟩,
  ⟨some 7, .app 1 (.t 5) (.t 6), none, false, false, [5, 6]⟩,
  ⟨some 2, .mv (.t 7), none, false, false, [7]⟩])
 (.ret)))
def rs_slices_Clone_int_int : List IRes := [.t 2]
theorem ok_slices_Clone_int_int : fnOk Try.prog 62 ic_slices_Clone_int_int rs_slices_Clone_int_int 8 = true := by kernel_rfl

/-- slices.Equal(()int,int) -/
def ic_slices_Equal_int_int : ICode :=
 .seq (.ops 0 false [⟨some 4, .mv (.c (.bool false)), none, false, false, [4]⟩])
 (.seq (.seq (.ops 1 false [⟨some 6, .mv (.t 0), none, false, false, []⟩,
  ⟨some 7, .len (.t 6), none, false, false, [6]⟩,
  ⟨some 8, .mv (.t 1), none, false, false, []⟩,
  ⟨some 9, .len (.t 8), none, false, false, [8]⟩,
  ⟨some 10, .bin .neq (.t 7) (.t 9), none, false, false, [7, 9]⟩])
 (.cond (.t 10)
  (.seq (.ops 2 false [⟨some 4, .mv (.c (.bool false)), none, false, false, []⟩])
  (.ret))
  (.skip)))
 (.seq (.seq (.ops 3 false [⟨some 11, .mv (.t 0), none, false, false, []⟩,
  ⟨some 12, .len (.t 11), none, false, false, [11]⟩,
  ⟨some 13, .mv (.c (.int .i64 0)), none, false, false, []⟩])
 (.block 0 (.loop [0, 1, 12, 13] (.seq (.ops 4 false [⟨some 14, .bin .lss (.t 13) (.t 12), none, false, false, []⟩])
   (.seq (.cond (.t 14)
    (.skip)
    (.exit 0))
   (.seq (.block 1 (.seq (.ops 5 false [⟨some 15, .mv (.t 13), none, false, false, []⟩,
     ⟨some 5, .mv (.t 15), none, false, false, [15]⟩])
    (.seq (.ops 6 true [⟨some 16, .mv (.t 0), none, false, false, []⟩,
     ⟨some 17, .mv (.t 5), none, false, false, []⟩,
     ⟨some 18, .ia 1 [.int .i64 0] (.t 16) (.t 17), none, false, false, [16, 17]⟩,
     ⟨some 19, .ld none [.int .i64 0] (.t 18), none, false, false, [18]⟩,
     ⟨some 20, .mv (.t 1), none, false, false, []⟩,
     ⟨some 21, .mv (.t 5), none, false, false, [5]⟩,
     ⟨some 22, .ia 1 [.int .i64 0] (.t 20) (.t 21), none, false, false, [20, 21]⟩,
     ⟨some 23, .ld none [.int .i64 0] (.t 22), none, false, false, [22]⟩,
     ⟨some 24, .bin .neq (.t 19) (.t 23), none, false, false, [19, 23]⟩])
    (.cond (.t 24)
     (.seq (.ops 7 false [⟨some 4, .mv (.c (.bool false)), none, false, false, []⟩])
     (.ret))
     (.skip)))))
   (.ops 8 false [⟨some 25, .bin .add (.t 13) (.c (.int .i64 1)), none, false, false, [13]⟩,
    ⟨some 13, .mv (.t 25), none, false, false, [25]⟩])))))))
 (.seq (.ops 9 false [⟨some 4, .mv (.c (.bool true)), none, false, false, []⟩])
 (.ret))))
def rs_slices_Equal_int_int : List IRes := [.t 4]
theorem ok_slices_Equal_int_int : fnOk Try.prog 122 ic_slices_Equal_int_int rs_slices_Equal_int_int 26 = true := by kernel_rfl

/-- tallyman/task.Clone -/
def ic_task_Clone : ICode :=
 .seq (.ops 0 false [⟨some 1, .box (.t 0), none, false, false, [0]⟩,
  ⟨some 2, .alloc [.int .i64 0, .int .i64 0, .int .u64 0, .int .u64 0, .int .i64 0, .int .i64 0, .int .i64 0, .int .i64 0, .nils], none, false, false, []⟩])
 (.seq (.ops 1 false [⟨some 3, .fa 8 (.t 1), none, false, false, []⟩,
  ⟨some 4, .ld none [] (.t 3), none, false, false, [3]⟩,
  ⟨some 5, .call (.c (.fn 62 [] [])) [.t 4], none, false, false, [4]⟩,
  ⟨some 6, .fa 8 (.t 1), none, false, false, []⟩,
  ⟨none, .st 1 (.t 6) (.t 5), none, false, false, [5, 6]⟩])
 (.seq (.ops 2 false [⟨some 7, .ld (some 9) [] (.t 1), none, false, false, [1]⟩,
  ⟨none, .st 9 (.t 2) (.t 7), none, false, false, [7]⟩])
 (.ret)))
def rs_task_Clone : List IRes := [.cell 2 (some 9)]
theorem ok_task_Clone : fnOk Try.prog 61 ic_task_Clone rs_task_Clone 8 = true := by kernel_rfl

/-- tallyman/task.Same -/
def ic_task_Same : ICode :=
 .seq (.ops 0 false [⟨some 2, .box (.t 0), none, false, false, [0]⟩,
  ⟨some 3, .box (.t 1), none, false, false, [1]⟩,
  ⟨some 4, .mv (.c (.bool false)), none, false, false, [4]⟩])
 (.seq (.ops 1 true [⟨some 5, .ld (some 9) [] (.t 2), none, false, false, []⟩,
  ⟨some 6, .call (.c (.fn 170 [] [])) [.t 5], none, false, false, [5]⟩,
  ⟨some 7, .ld (some 9) [] (.t 3), none, false, false, []⟩,
  ⟨some 8, .call (.c (.fn 170 [] [])) [.t 7], none, false, false, [7]⟩,
  ⟨some 9, .eqc false [false, false, false, false, false, false, false, false] (.t 6) (.t 8), none, false, false, [6, 8]⟩,
  ⟨some 10, .mv (.t 9), none, false, false, [9]⟩,
  ⟨some 11, .fa 8 (.t 2), (some (10, true)), true, false, [2]⟩,
  ⟨some 12, .ld none [] (.o 11), (some (10, true)), true, false, [11]⟩,
  ⟨some 13, .fa 8 (.t 3), (some (10, true)), true, false, [3]⟩,
  ⟨some 14, .ld none [] (.o 13), (some (10, true)), true, false, [13]⟩,
  ⟨some 15, .call (.c (.fn 122 [] [])) [.o 12, .o 14], (some (10, true)), true, false, [12, 14]⟩,
  ⟨some 16, .pick (.t 10) (.t 15) (.c (.bool false)), none, false, false, [10, 15]⟩,
  ⟨some 4, .mv (.t 16), none, false, false, [16]⟩])
 (.ret))
def rs_task_Same : List IRes := [.t 4]
theorem ok_task_Same : fnOk Try.prog 135 ic_task_Same rs_task_Same 17 = true := by kernel_rfl

/-- tallyman/task.of -/
def ic_task_of : ICode :=
 .seq (.ops 0 false [⟨some 1, .box (.t 0), none, false, false, [0]⟩,
  ⟨some 2, .alloc [.int .i64 0, .int .i64 0, .int .u64 0, .int .u64 0, .int .i64 0, .int .i64 0, .int .i64 0, .int .i64 0], none, false, false, []⟩])
 (.seq (.ops 1 false [⟨some 3, .fa 0 (.t 1), none, false, false, []⟩,
  ⟨some 4, .ld none [] (.t 3), none, false, false, [3]⟩,
  ⟨some 5, .fa 1 (.t 1), none, false, false, []⟩,
  ⟨some 6, .ld none [] (.t 5), none, false, false, [5]⟩,
  ⟨some 7, .fa 2 (.t 1), none, false, false, []⟩,
  ⟨some 8, .ld none [] (.t 7), none, false, false, [7]⟩,
  ⟨some 9, .fa 3 (.t 1), none, false, false, []⟩,
  ⟨some 10, .ld none [] (.t 9), none, false, false, [9]⟩,
  ⟨some 11, .fa 4 (.t 1), none, false, false, []⟩,
  ⟨some 12, .ld (some 2) [] (.t 11), none, false, false, [11]⟩,
  ⟨some 13, .fa 6 (.t 1), none, false, false, [1]⟩,
  ⟨some 14, .ld (some 2) [] (.t 13), none, false, false, [13]⟩,
  ⟨some 15, .build [.int .i64 0, .int .i64 0, .int .u64 0, .int .u64 0, .int .i64 0, .int .i64 0, .int .i64 0, .int .i64 0] [(0, 1, .t 4), (1, 1, .t 6), (2, 1, .t 8), (3, 1, .t 10), (4, 2, .t 12), (6, 2, .t 14)], none, false, false, [4, 6, 8, 10, 12, 14]⟩,
  ⟨none, .st 8 (.t 2) (.t 15), none, false, false, [15]⟩])
 (.ret))
def rs_task_of : List IRes := [.cell 2 (some 8)]
theorem ok_task_of : fnOk Try.prog 170 ic_task_of rs_task_of 16 = true := by kernel_rfl

end Go.Proofs.Ytaimhgmakgbfaaa.Sx
