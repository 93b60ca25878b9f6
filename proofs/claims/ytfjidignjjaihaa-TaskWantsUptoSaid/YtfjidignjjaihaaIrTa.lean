/- Functions of the seat in the small language. No conditions: a kit of our own. -/
import Derived.Test.YtfjidignjjaihaaProg
import Derived.Test.YtfjidignjjaihaaSx17
namespace Go.Proofs.Ytfjidignjjaihaa.Sx
open Go Go.RowKit
set_option linter.unusedVariables false

/-- slices.Equal(()tallyman/api.Aisle,tallyman/api.Aisle) -/
def ic_slices_Equal_api_Aisle_api_Aisle : ICode :=
 .seq (.ops 0 false [⟨some 4, .mv (.c (.bool false)), none, false, false, [4]⟩])
 (.seq (.seq (.ops 1 false [⟨some 6, .mv (.t 0), none, false, false, []⟩,
  ⟨some 7, .len (.t 6), none, false, false, [6]⟩,
  ⟨some 8, .mv (.t 1), none, false, false, []⟩,
  ⟨some 9, .len (.t 8), none, false, false, [8]⟩,
  ⟨some 10, .bin .neq (.t 7) (.t 9), none, false, false, [7, 9]⟩])
 (.cond (.t 10)
  (.seq (.ops 2 false [⟨some 4, .mv (.c (.bool false)), none, false, false, []⟩])
  (.ret))
  (.skip)))
 (.seq (.seq (.ops 3 false [⟨some 11, .mv (.t 0), none, false, false, []⟩,
  ⟨some 12, .len (.t 11), none, false, false, [11]⟩,
  ⟨some 13, .mv (.c (.int .i64 0)), none, false, false, []⟩])
 (.block 0 (.loop [0, 1, 12, 13] (.seq (.ops 4 false [⟨some 14, .bin .lss (.t 13) (.t 12), none, false, false, []⟩])
   (.seq (.cond (.t 14)
    (.skip)
    (.exit 0))
   (.seq (.block 1 (.seq (.ops 5 false [⟨some 15, .mv (.t 13), none, false, false, []⟩,
     ⟨some 5, .mv (.t 15), none, false, false, [15]⟩])
    (.seq (.ops 6 true [⟨some 16, .mv (.t 0), none, false, false, []⟩,
     ⟨some 17, .mv (.t 5), none, false, false, []⟩,
     ⟨some 18, .ia 5 [.int .i64 0, .int .i64 0, .int .i64 0, .int .i64 0, .int .i64 0] (.t 16) (.t 17), none, false, false, [16, 17]⟩,
     ⟨some 19, .ld (some 5) [.int .i64 0, .int .i64 0, .int .i64 0, .int .i64 0, .int .i64 0] (.t 18), none, false, false, [18]⟩,
     ⟨some 20, .mv (.t 1), none, false, false, []⟩,
     ⟨some 21, .mv (.t 5), none, false, false, [5]⟩,
     ⟨some 22, .ia 5 [.int .i64 0, .int .i64 0, .int .i64 0, .int .i64 0, .int .i64 0] (.t 20) (.t 21), none, false, false, [20, 21]⟩,
     ⟨some 23, .ld (some 5) [.int .i64 0, .int .i64 0, .int .i64 0, .int .i64 0, .int .i64 0] (.t 22), none, false, false, [22]⟩,
     ⟨some 24, .eqc true [false, false, false, false, false] (.t 19) (.t 23), none, false, false, [19, 23]⟩])
    (.cond (.t 24)
     (.seq (.ops 7 false [⟨some 4, .mv (.c (.bool false)), none, false, false, []⟩])
     (.ret))
     (.skip)))))
   (.ops 8 false [⟨some 25, .bin .add (.t 13) (.c (.int .i64 1)), none, false, false, [13]⟩,
    ⟨some 13, .mv (.t 25), none, false, false, [25]⟩])))))))
 (.seq (.ops 9 false [⟨some 4, .mv (.c (.bool true)), none, false, false, []⟩])
 (.ret))))
def rs_slices_Equal_api_Aisle_api_Aisle : List IRes := [.t 4]
theorem ok_slices_Equal_api_Aisle_api_Aisle : fnOk Try.prog 83 ic_slices_Equal_api_Aisle_api_Aisle rs_slices_Equal_api_Aisle_api_Aisle 26 = true := by kernel_rfl

/-- tallyman/skill.Has -/
def ic_skill_Has : ICode :=
 .seq (.ops 0 false [⟨some 4, .mv (.c (.bool false)), none, false, false, [4]⟩])
 (.seq (.ops 1 false [⟨some 5, .mv (.t 1), none, false, false, [1]⟩,
  ⟨some 6, .mv (.t 0), none, false, false, [0]⟩,
  ⟨some 7, .binw .andNot (.t 5) (.t 6), none, false, false, [5, 6]⟩,
  ⟨some 8, .bin .eql (.t 7) (.c (.int .u64 0)), none, false, false, [7]⟩,
  ⟨some 4, .mv (.t 8), none, false, false, [8]⟩])
 (.ret))
def rs_skill_Has : List IRes := [.t 4]
theorem ok_skill_Has : fnOk Try.prog 56 ic_skill_Has rs_skill_Has 9 = true := by kernel_rfl

/-- tallyman/task.Fits -/
def ic_task_Fits : ICode :=
 .seq (.ops 0 false [⟨some 3, .box (.t 0), none, false, false, [0]⟩,
  ⟨some 6, .mv (.c (.bool false)), none, false, false, [6]⟩])
 (.seq (.ops 1 false [⟨some 7, .mv (.t 1), none, false, false, [1]⟩,
  ⟨some 8, .fa 2 (.t 3), none, false, false, []⟩,
  ⟨some 9, .ld none [] (.t 8), none, false, false, [8]⟩,
  ⟨some 10, .call (.c (.fn 56 [] [])) [.t 7, .t 9], none, false, false, [7, 9]⟩,
  ⟨some 11, .mv (.t 10), none, false, false, [10]⟩,
  ⟨some 12, .mv (.t 2), (some (11, true)), true, false, [2]⟩,
  ⟨some 13, .fa 3 (.t 3), (some (11, true)), true, false, [3]⟩,
  ⟨some 14, .ld none [] (.o 13), (some (11, true)), true, false, [13]⟩,
  ⟨some 15, .call (.c (.fn 56 [] [])) [.o 12, .o 14], (some (11, true)), true, false, [12, 14]⟩,
  ⟨some 16, .pick (.t 11) (.t 15) (.c (.bool false)), none, false, false, [11, 15]⟩,
  ⟨some 6, .mv (.t 16), none, false, false, [16]⟩])
 (.ret))
def rs_task_Fits : List IRes := [.t 6]
theorem ok_task_Fits : fnOk Try.prog 20 ic_task_Fits rs_task_Fits 17 = true := by kernel_rfl

/-- tallyman/task.SameRules -/
def ic_task_SameRules : ICode :=
 .seq (.ops 0 false [⟨some 2, .box (.t 0), none, false, false, [0]⟩,
  ⟨some 3, .box (.t 1), none, false, false, [1]⟩,
  ⟨some 4, .mv (.c (.bool false)), none, false, false, [4]⟩])
 (.seq (.ops 1 true [⟨some 5, .ld (some 8) [] (.t 2), none, false, false, []⟩,
  ⟨some 6, .call (.c (.fn 82 [] [])) [.t 5], none, false, false, [5]⟩,
  ⟨some 7, .ld (some 8) [] (.t 3), none, false, false, []⟩,
  ⟨some 8, .call (.c (.fn 82 [] [])) [.t 7], none, false, false, [7]⟩,
  ⟨some 9, .eqc false [false, false, false, false, false, false, false] (.t 6) (.t 8), none, false, false, [6, 8]⟩,
  ⟨some 10, .mv (.t 9), none, false, false, [9]⟩,
  ⟨some 11, .fa 7 (.t 2), (some (10, true)), true, false, [2]⟩,
  ⟨some 12, .ld none [] (.o 11), (some (10, true)), true, false, [11]⟩,
  ⟨some 13, .fa 7 (.t 3), (some (10, true)), true, false, [3]⟩,
  ⟨some 14, .ld none [] (.o 13), (some (10, true)), true, false, [13]⟩,
  ⟨some 15, .call (.c (.fn 83 [] [])) [.o 12, .o 14], (some (10, true)), true, false, [12, 14]⟩,
  ⟨some 16, .pick (.t 10) (.t 15) (.c (.bool false)), none, false, false, [10, 15]⟩,
  ⟨some 4, .mv (.t 16), none, false, false, [16]⟩])
 (.ret))
def rs_task_SameRules : List IRes := [.t 4]
theorem ok_task_SameRules : fnOk Try.prog 24 ic_task_SameRules rs_task_SameRules 17 = true := by kernel_rfl

/-- tallyman/task.Want -/
def ic_task_Want : ICode :=
 .seq (.ops 0 false [⟨some 2, .box (.t 0), none, false, false, [0]⟩,
  ⟨some 3, .box (.t 1), none, false, false, [1]⟩,
  ⟨some 4, .mv (.c (.nils)), none, false, false, [4]⟩])
 (.seq (.ops 1 false [⟨some 5, .fa 7 (.t 2), none, false, false, [2]⟩,
  ⟨some 6, .ld none [] (.t 5), none, false, false, [5]⟩,
  ⟨some 7, .fa 4 (.t 3), none, false, false, []⟩,
  ⟨some 8, .ld (some 2) [] (.t 7), none, false, false, [7]⟩,
  ⟨some 9, .fa 6 (.t 3), none, false, false, [3]⟩,
  ⟨some 10, .ld (some 2) [] (.t 9), none, false, false, [9]⟩,
  ⟨some 11, .call (.c (.fn 77 [] [])) [.t 6, .t 8, .t 10, .c (.int .i64 0)], none, false, false, [6, 8, 10]⟩,
  ⟨some 4, .mv (.t 11), none, false, false, [11]⟩])
 (.ret))
def rs_task_Want : List IRes := [.t 4]
theorem ok_task_Want : fnOk Try.prog 18 ic_task_Want rs_task_Want 12 = true := by kernel_rfl

/-- tallyman/task.numbers -/
def ic_task_numbers : ICode :=
 .seq (.ops 0 false [⟨some 1, .box (.t 0), none, false, false, [0]⟩,
  ⟨some 2, .alloc [.int .i64 0, .int .i64 0, .int .i64 0, .int .i64 0, .int .i64 0, .int .i64 0, .int .i64 0], none, false, false, []⟩])
 (.seq (.ops 1 false [⟨some 3, .fa 0 (.t 1), none, false, false, []⟩,
  ⟨some 4, .ld none [] (.t 3), none, false, false, [3]⟩,
  ⟨some 5, .fa 1 (.t 1), none, false, false, []⟩,
  ⟨some 6, .ld none [] (.t 5), none, false, false, [5]⟩,
  ⟨some 7, .fa 2 (.t 1), none, false, false, []⟩,
  ⟨some 8, .ld none [] (.t 7), none, false, false, [7]⟩,
  ⟨some 9, .fa 3 (.t 1), none, false, false, []⟩,
  ⟨some 10, .ld none [] (.t 9), none, false, false, [9]⟩,
  ⟨some 11, .fa 4 (.t 1), none, false, false, []⟩,
  ⟨some 12, .ld none [] (.t 11), none, false, false, [11]⟩,
  ⟨some 13, .fa 5 (.t 1), none, false, false, []⟩,
  ⟨some 14, .ld none [] (.t 13), none, false, false, [13]⟩,
  ⟨some 15, .fa 6 (.t 1), none, false, false, [1]⟩,
  ⟨some 16, .ld none [] (.t 15), none, false, false, [15]⟩,
  ⟨some 17, .build [.int .i64 0, .int .i64 0, .int .i64 0, .int .i64 0, .int .i64 0, .int .i64 0, .int .i64 0] [(0, 1, .t 4), (1, 1, .t 6), (2, 1, .t 8), (3, 1, .t 10), (4, 1, .t 12), (5, 1, .t 14), (6, 1, .t 16)], none, false, false, [4, 6, 8, 10, 12, 14, 16]⟩,
  ⟨none, .st 7 (.t 2) (.t 17), none, false, false, [17]⟩])
 (.ret))
def rs_task_numbers : List IRes := [.cell 2 (some 7)]
theorem ok_task_numbers : fnOk Try.prog 82 ic_task_numbers rs_task_numbers 18 = true := by kernel_rfl

/-- tallyman/tallymanref12.Has -/
def ic_r12_Has : ICode :=
 .seq (.ops 0 false [⟨some 4, .mv (.c (.bool false)), none, false, false, [4]⟩])
 (.seq (.seq (.ops 1 false [⟨some 5, .mv (.c (.int .i64 0)), none, false, false, []⟩])
 (.block 0 (.loop [0, 1, 5] (.seq (.seq (.ops 2 false [⟨some 6, .mv (.t 5), none, false, false, []⟩,
    ⟨some 7, .bin .lss (.t 6) (.c (.int .i64 64)), none, false, false, [6]⟩])
   (.cond (.t 7)
    (.skip)
    (.exit 0)))
   (.seq (.block 1 (.seq (.ops 4 false [⟨some 10, .mv (.t 1), none, false, false, []⟩,
     ⟨some 11, .mv (.t 5), none, false, false, []⟩,
     ⟨some 12, .call (.c (.fn 147 [] [])) [.t 10, .t 11], none, false, false, [10, 11]⟩,
     ⟨some 13, .mv (.t 12), none, false, false, [12]⟩,
     ⟨some 14, .mv (.t 0), (some (13, true)), true, false, []⟩,
     ⟨some 15, .mv (.t 5), (some (13, true)), true, false, []⟩,
     ⟨some 16, .call (.c (.fn 147 [] [])) [.o 14, .o 15], (some (13, true)), true, false, [14, 15]⟩,
     ⟨some 17, .not (.o 16), (some (13, true)), true, false, [16]⟩,
     ⟨some 18, .pick (.t 13) (.t 17) (.c (.bool false)), none, false, false, [13, 17]⟩])
    (.cond (.t 18)
     (.seq (.ops 5 false [⟨some 4, .mv (.c (.bool false)), none, false, false, []⟩])
     (.ret))
     (.skip))))
   (.ops 3 false [⟨some 8, .mv (.t 5), none, false, false, [5]⟩,
    ⟨some 9, .bin .add (.t 8) (.c (.int .i64 1)), none, false, false, [8]⟩,
    ⟨some 5, .mv (.t 9), none, false, false, [9]⟩]))))))
 (.seq (.ops 6 false [⟨some 4, .mv (.c (.bool true)), none, false, false, []⟩])
 (.ret)))
def rs_r12_Has : List IRes := [.t 4]
theorem ok_r12_Has : fnOk Try.prog 79 ic_r12_Has rs_r12_Has 19 = true := by kernel_rfl

/-- tallyman/tallymanref12.Is -/
def ic_r12_Is : ICode :=
 .seq (.ops 0 false [⟨some 4, .mv (.c (.bool false)), none, false, false, [4]⟩])
 (.seq (.seq (.ops 1 false [⟨some 6, .mv (.t 1), none, false, false, []⟩,
  ⟨some 7, .bin .lss (.t 6) (.c (.int .i64 0)), none, false, false, [6]⟩,
  ⟨some 8, .mv (.t 7), none, false, false, [7]⟩,
  ⟨some 9, .mv (.t 1), (some (8, false)), true, false, []⟩,
  ⟨some 10, .bin .gtr (.o 9) (.c (.int .i64 63)), (some (8, false)), true, false, [9]⟩,
  ⟨some 11, .pick (.t 8) (.c (.bool true)) (.t 10), none, false, false, [8, 10]⟩])
 (.cond (.t 11)
  (.seq (.ops 2 false [⟨some 4, .mv (.c (.bool false)), none, false, false, []⟩])
  (.ret))
  (.skip)))
 (.seq (.seq (.ops 3 false [⟨some 5, .mv (.c (.int .i64 0)), none, false, false, []⟩])
 (.block 0 (.loop [0, 1, 5] (.seq (.seq (.ops 4 false [⟨some 12, .mv (.t 5), none, false, false, []⟩,
    ⟨some 13, .mv (.t 1), none, false, false, []⟩,
    ⟨some 14, .bin .lss (.t 12) (.t 13), none, false, false, [12, 13]⟩])
   (.cond (.t 14)
    (.skip)
    (.exit 0)))
   (.seq (.block 1 (.ops 6 false [⟨some 17, .mv (.t 0), none, false, false, [0]⟩,
     ⟨some 18, .bin .quo (.t 17) (.c (.int .u64 2)), none, false, false, [17]⟩,
     ⟨some 0, .mv (.t 18), none, false, false, [18]⟩]))
   (.ops 5 false [⟨some 15, .mv (.t 5), none, false, false, [5]⟩,
    ⟨some 16, .bin .add (.t 15) (.c (.int .i64 1)), none, false, false, [15]⟩,
    ⟨some 5, .mv (.t 16), none, false, false, [16]⟩]))))))
 (.seq (.ops 7 false [⟨some 19, .mv (.t 0), none, false, false, [0]⟩,
  ⟨some 20, .bin .rem (.t 19) (.c (.int .u64 2)), none, false, false, [19]⟩,
  ⟨some 21, .bin .eql (.t 20) (.c (.int .u64 1)), none, false, false, [20]⟩,
  ⟨some 4, .mv (.t 21), none, false, false, [21]⟩])
 (.ret))))
def rs_r12_Is : List IRes := [.t 4]
theorem ok_r12_Is : fnOk Try.prog 147 ic_r12_Is rs_r12_Is 22 = true := by kernel_rfl

/-- tallyman/tallymanref22.Fits -/
def ic_r22_Fits : ICode :=
 .seq (.ops 0 false [⟨some 3, .box (.t 0), none, false, false, [0]⟩,
  ⟨some 6, .mv (.c (.bool false)), none, false, false, [6]⟩])
 (.seq (.ops 1 false [⟨some 7, .mv (.t 1), none, false, false, [1]⟩,
  ⟨some 8, .fa 2 (.t 3), none, false, false, []⟩,
  ⟨some 9, .ld none [] (.t 8), none, false, false, [8]⟩,
  ⟨some 10, .call (.c (.fn 79 [] [])) [.t 7, .t 9], none, false, false, [7, 9]⟩,
  ⟨some 11, .mv (.t 10), none, false, false, [10]⟩,
  ⟨some 12, .mv (.t 2), (some (11, true)), true, false, [2]⟩,
  ⟨some 13, .fa 3 (.t 3), (some (11, true)), true, false, [3]⟩,
  ⟨some 14, .ld none [] (.o 13), (some (11, true)), true, false, [13]⟩,
  ⟨some 15, .call (.c (.fn 79 [] [])) [.o 12, .o 14], (some (11, true)), true, false, [12, 14]⟩,
  ⟨some 16, .pick (.t 11) (.t 15) (.c (.bool false)), none, false, false, [11, 15]⟩,
  ⟨some 6, .mv (.t 16), none, false, false, [16]⟩])
 (.ret))
def rs_r22_Fits : List IRes := [.t 6]
theorem ok_r22_Fits : fnOk Try.prog 21 ic_r22_Fits rs_r22_Fits 17 = true := by kernel_rfl

/-- tallyman/tallymanref22.SameRules -/
def ic_r22_SameRules : ICode :=
 .seq (.ops 0 false [⟨some 2, .box (.t 0), none, false, false, [0]⟩,
  ⟨some 3, .box (.t 1), none, false, false, [1]⟩,
  ⟨some 4, .mv (.c (.bool false)), none, false, false, [4]⟩])
 (.seq (.ops 1 false [⟨some 5, .fa 0 (.t 2), none, false, false, []⟩,
  ⟨some 6, .ld none [] (.t 5), none, false, false, [5]⟩,
  ⟨some 7, .fa 0 (.t 3), none, false, false, []⟩,
  ⟨some 8, .ld none [] (.t 7), none, false, false, [7]⟩,
  ⟨some 9, .bin .eql (.t 6) (.t 8), none, false, false, [6, 8]⟩,
  ⟨some 10, .mv (.t 9), none, false, false, [9]⟩,
  ⟨some 11, .fa 1 (.t 2), (some (10, true)), true, false, []⟩,
  ⟨some 12, .ld none [] (.o 11), (some (10, true)), true, false, [11]⟩,
  ⟨some 13, .fa 1 (.t 3), (some (10, true)), true, false, []⟩,
  ⟨some 14, .ld none [] (.o 13), (some (10, true)), true, false, [13]⟩,
  ⟨some 15, .bin .eql (.o 12) (.o 14), (some (10, true)), true, false, [12, 14]⟩,
  ⟨some 16, .pick (.t 10) (.t 15) (.c (.bool false)), none, false, false, [10, 15]⟩,
  ⟨some 17, .mv (.t 16), none, false, false, [16]⟩,
  ⟨some 18, .fa 2 (.t 2), (some (17, true)), true, false, []⟩,
  ⟨some 19, .ld none [] (.o 18), (some (17, true)), true, false, [18]⟩,
  ⟨some 20, .fa 2 (.t 3), (some (17, true)), true, false, []⟩,
  ⟨some 21, .ld none [] (.o 20), (some (17, true)), true, false, [20]⟩,
  ⟨some 22, .bin .eql (.o 19) (.o 21), (some (17, true)), true, false, [19, 21]⟩,
  ⟨some 23, .pick (.t 17) (.t 22) (.c (.bool false)), none, false, false, [17, 22]⟩,
  ⟨some 24, .mv (.t 23), none, false, false, [23]⟩,
  ⟨some 25, .fa 3 (.t 2), (some (24, true)), true, false, []⟩,
  ⟨some 26, .ld none [] (.o 25), (some (24, true)), true, false, [25]⟩,
  ⟨some 27, .fa 3 (.t 3), (some (24, true)), true, false, []⟩,
  ⟨some 28, .ld none [] (.o 27), (some (24, true)), true, false, [27]⟩,
  ⟨some 29, .bin .eql (.o 26) (.o 28), (some (24, true)), true, false, [26, 28]⟩,
  ⟨some 30, .pick (.t 24) (.t 29) (.c (.bool false)), none, false, false, [24, 29]⟩,
  ⟨some 31, .mv (.t 30), none, false, false, [30]⟩,
  ⟨some 32, .fa 4 (.t 2), (some (31, true)), true, false, []⟩,
  ⟨some 33, .ld none [] (.o 32), (some (31, true)), true, false, [32]⟩,
  ⟨some 34, .fa 4 (.t 3), (some (31, true)), true, false, []⟩,
  ⟨some 35, .ld none [] (.o 34), (some (31, true)), true, false, [34]⟩,
  ⟨some 36, .bin .eql (.o 33) (.o 35), (some (31, true)), true, false, [33, 35]⟩,
  ⟨some 37, .pick (.t 31) (.t 36) (.c (.bool false)), none, false, false, [31, 36]⟩,
  ⟨some 38, .mv (.t 37), none, false, false, [37]⟩,
  ⟨some 39, .fa 5 (.t 2), (some (38, true)), true, false, []⟩,
  ⟨some 40, .ld none [] (.o 39), (some (38, true)), true, false, [39]⟩,
  ⟨some 41, .fa 5 (.t 3), (some (38, true)), true, false, []⟩,
  ⟨some 42, .ld none [] (.o 41), (some (38, true)), true, false, [41]⟩,
  ⟨some 43, .bin .eql (.o 40) (.o 42), (some (38, true)), true, false, [40, 42]⟩,
  ⟨some 44, .pick (.t 38) (.t 43) (.c (.bool false)), none, false, false, [38, 43]⟩,
  ⟨some 45, .mv (.t 44), none, false, false, [44]⟩,
  ⟨some 46, .fa 6 (.t 2), (some (45, true)), true, false, []⟩,
  ⟨some 47, .ld none [] (.o 46), (some (45, true)), true, false, [46]⟩,
  ⟨some 48, .fa 6 (.t 3), (some (45, true)), true, false, []⟩,
  ⟨some 49, .ld none [] (.o 48), (some (45, true)), true, false, [48]⟩,
  ⟨some 50, .bin .eql (.o 47) (.o 49), (some (45, true)), true, false, [47, 49]⟩,
  ⟨some 51, .pick (.t 45) (.t 50) (.c (.bool false)), none, false, false, [45, 50]⟩,
  ⟨some 52, .mv (.t 51), none, false, false, [51]⟩,
  ⟨some 53, .fa 7 (.t 2), (some (52, true)), true, false, [2]⟩,
  ⟨some 54, .ld none [] (.o 53), (some (52, true)), true, false, [53]⟩,
  ⟨some 55, .fa 7 (.t 3), (some (52, true)), true, false, [3]⟩,
  ⟨some 56, .ld none [] (.o 55), (some (52, true)), true, false, [55]⟩,
  ⟨some 57, .call (.c (.fn 84 [] [])) [.o 54, .o 56], (some (52, true)), true, false, [54, 56]⟩,
  ⟨some 58, .pick (.t 52) (.t 57) (.c (.bool false)), none, false, false, [52, 57]⟩,
  ⟨some 4, .mv (.t 58), none, false, false, [58]⟩])
 (.ret))
def rs_r22_SameRules : List IRes := [.t 4]
theorem ok_r22_SameRules : fnOk Try.prog 25 ic_r22_SameRules rs_r22_SameRules 59 = true := by kernel_rfl

/-- tallyman/tallymanref22.Want -/
def ic_r22_Want : ICode :=
 .seq (.ops 0 false [⟨some 2, .box (.t 0), none, false, false, [0]⟩,
  ⟨some 3, .box (.t 1), none, false, false, [1]⟩,
  ⟨some 4, .mv (.c (.nils)), none, false, false, [4]⟩])
 (.seq (.ops 1 false [⟨some 5, .fa 7 (.t 2), none, false, false, [2]⟩,
  ⟨some 6, .ld none [] (.t 5), none, false, false, [5]⟩,
  ⟨some 7, .fa 4 (.t 3), none, false, false, []⟩,
  ⟨some 8, .ld (some 2) [] (.t 7), none, false, false, [7]⟩,
  ⟨some 9, .fa 6 (.t 3), none, false, false, [3]⟩,
  ⟨some 10, .ld (some 2) [] (.t 9), none, false, false, [9]⟩,
  ⟨some 11, .call (.c (.fn 78 [] [])) [.t 6, .t 8, .t 10, .c (.int .i64 0)], none, false, false, [6, 8, 10]⟩,
  ⟨some 4, .mv (.t 11), none, false, false, [11]⟩])
 (.ret))
def rs_r22_Want : List IRes := [.t 4]
theorem ok_r22_Want : fnOk Try.prog 19 ic_r22_Want rs_r22_Want 12 = true := by kernel_rfl

/-- tallyman/tallymanlaw22.alive -/
def ic_l22_alive : ICode :=
 .seq (.ops 0 false [⟨some 0, .mv (.c (.bool false)), none, false, false, [0]⟩])
 (.seq (.ops 1 false [⟨some 4, .build [.int .i64 0, .int .i64 0] [(0, 1, .c (.int .i64 1))], none, false, false, []⟩,
  ⟨some 5, .build [.int .i64 0, .int .i64 0] [(0, 1, .c (.int .i64 4))], none, false, false, []⟩,
  ⟨some 6, .rowView 1 [.c (.int .i64 2)], none, false, false, []⟩,
  ⟨some 7, .build [.int .i64 0, .int .i64 0, .int .u64 0, .int .u64 0, .int .i64 0, .int .i64 0, .int .i64 0, .int .i64 0, .nils] [(0, 1, .c (.int .i64 3)), (1, 1, .c (.int .i64 5)), (2, 1, .c (.int .u64 1)), (4, 2, .t 4), (6, 2, .t 5), (8, 1, .t 6)], none, false, false, [4, 5, 6]⟩,
  ⟨some 1, .alloc [.int .i64 0, .int .i64 0, .int .u64 0, .int .u64 0, .int .i64 0, .int .i64 0, .int .i64 0, .int .i64 0, .nils], none, false, false, []⟩,
  ⟨none, .st 9 (.t 1) (.t 7), none, false, false, [7]⟩])
 (.seq (.ops 2 false [⟨some 8, .ld (some 9) [] (.t 1), none, false, false, []⟩,
  ⟨some 2, .alloc [.int .i64 0, .int .i64 0, .int .u64 0, .int .u64 0, .int .i64 0, .int .i64 0, .int .i64 0, .int .i64 0, .nils], none, false, false, []⟩,
  ⟨none, .st 9 (.t 2) (.t 8), none, false, false, [8]⟩])
 (.seq (.ops 3 false [⟨some 9, .rowView 1 [.c (.int .i64 3)], none, false, false, []⟩,
  ⟨some 10, .fa 8 (.t 2), none, false, false, []⟩,
  ⟨none, .st 1 (.t 10) (.t 9), none, false, false, [9, 10]⟩])
 (.seq (.ops 4 false [⟨some 11, .build [.int .i64 0, .int .i64 0] [(0, 1, .c (.int .i64 2))], none, false, false, []⟩,
  ⟨some 12, .build [.int .i64 0, .int .i64 0] [(0, 1, .c (.int .i64 2))], none, false, false, []⟩,
  ⟨some 13, .build [.int .i64 0, .int .i64 0, .int .i64 0, .int .i64 0, .int .i64 0] [(0, 1, .c (.int .i64 7)), (1, 2, .t 11), (3, 2, .t 12)], none, false, false, [11, 12]⟩,
  ⟨some 14, .rowView 5 [.t 13], none, false, false, [13]⟩,
  ⟨some 15, .build [.int .i64 0, .int .i64 0, .int .i64 0, .int .i64 0, .int .i64 0, .int .i64 0, .int .i64 0, .nils] [(0, 1, .c (.int .i64 9)), (1, 1, .c (.int .i64 2)), (2, 1, .c (.int .i64 2)), (3, 1, .c (.int .i64 5)), (4, 1, .c (.int .i64 3)), (7, 1, .t 14)], none, false, false, [14]⟩,
  ⟨some 3, .alloc [.int .i64 0, .int .i64 0, .int .i64 0, .int .i64 0, .int .i64 0, .int .i64 0, .int .i64 0, .nils], none, false, false, []⟩,
  ⟨none, .st 8 (.t 3) (.t 15), none, false, false, [15]⟩])
 (.seq (.ops 5 false [⟨some 16, .ld (some 9) [] (.t 1), none, false, false, []⟩,
  ⟨some 17, .call (.c (.fn 27 [] [])) [.t 16], none, false, false, [16]⟩,
  ⟨some 18, .bin .eql (.t 17) (.c (.int .i64 0)), none, false, false, [17]⟩,
  ⟨some 19, .mv (.t 18), none, false, false, [18]⟩,
  ⟨some 20, .ld (some 9) [] (.t 2), (some (19, true)), true, false, [2]⟩,
  ⟨some 21, .call (.c (.fn 27 [] [])) [.o 20], (some (19, true)), true, false, [20]⟩,
  ⟨some 22, .bin .eql (.o 21) (.c (.int .i64 1)), (some (19, true)), true, false, [21]⟩,
  ⟨some 23, .pick (.t 19) (.t 22) (.c (.bool false)), none, false, false, [19, 22]⟩,
  ⟨some 24, .mv (.t 23), none, false, false, [23]⟩,
  ⟨some 25, .ld (some 8) [] (.t 3), (some (24, true)), true, false, []⟩,
  ⟨some 26, .call (.c (.fn 26 [] [])) [.o 25], (some (24, true)), true, false, [25]⟩,
  ⟨some 27, .bin .eql (.o 26) (.c (.int .i64 0)), (some (24, true)), true, false, [26]⟩,
  ⟨some 28, .pick (.t 24) (.t 27) (.c (.bool false)), none, false, false, [24, 27]⟩,
  ⟨some 29, .mv (.t 28), none, false, false, [28]⟩,
  ⟨some 30, .ld (some 8) [] (.t 3), (some (29, true)), true, false, []⟩,
  ⟨some 31, .ld (some 9) [] (.t 1), (some (29, true)), true, false, []⟩,
  ⟨some 32, .call (.c (.fn 18 [] [])) [.o 30, .o 31], (some (29, true)), true, false, [30, 31]⟩,
  ⟨some 33, .rowView 1 [.c (.int .i64 7)], (some (29, true)), true, false, []⟩,
  ⟨some 34, .call (.c (.fn 13 [] [])) [.o 32, .o 33], (some (29, true)), true, false, [32, 33]⟩,
  ⟨some 35, .pick (.t 29) (.t 34) (.c (.bool false)), none, false, false, [29, 34]⟩,
  ⟨some 36, .mv (.t 35), none, false, false, [35]⟩,
  ⟨some 37, .ld (some 9) [] (.t 1), (some (36, true)), true, false, []⟩,
  ⟨some 38, .call (.c (.fn 20 [] [])) [.o 37, .c (.int .u64 3), .c (.int .u64 0)], (some (36, true)), true, false, [37]⟩,
  ⟨some 39, .pick (.t 36) (.t 38) (.c (.bool false)), none, false, false, [36, 38]⟩,
  ⟨some 40, .mv (.t 39), none, false, false, [39]⟩,
  ⟨some 41, .ld (some 9) [] (.t 1), (some (40, true)), true, false, []⟩,
  ⟨some 42, .call (.c (.fn 20 [] [])) [.o 41, .c (.int .u64 2), .c (.int .u64 0)], (some (40, true)), true, false, [41]⟩,
  ⟨some 43, .not (.o 42), (some (40, true)), true, false, [42]⟩,
  ⟨some 44, .pick (.t 40) (.t 43) (.c (.bool false)), none, false, false, [40, 43]⟩,
  ⟨some 45, .mv (.t 44), none, false, false, [44]⟩,
  ⟨some 46, .ld (some 9) [] (.t 1), (some (45, true)), true, false, []⟩,
  ⟨some 47, .ld (some 9) [] (.t 1), (some (45, true)), true, false, [1]⟩,
  ⟨some 48, .call (.c (.fn 22 [] [])) [.o 46, .o 47], (some (45, true)), true, false, [46, 47]⟩,
  ⟨some 49, .pick (.t 45) (.t 48) (.c (.bool false)), none, false, false, [45, 48]⟩,
  ⟨some 50, .mv (.t 49), none, false, false, [49]⟩,
  ⟨some 51, .ld (some 8) [] (.t 3), (some (50, true)), true, false, []⟩,
  ⟨some 52, .ld (some 8) [] (.t 3), (some (50, true)), true, false, [3]⟩,
  ⟨some 53, .call (.c (.fn 24 [] [])) [.o 51, .o 52], (some (50, true)), true, false, [51, 52]⟩,
  ⟨some 54, .pick (.t 50) (.t 53) (.c (.bool false)), none, false, false, [50, 53]⟩,
  ⟨some 0, .mv (.t 54), none, false, false, [54]⟩])
 (.ret))))))
def rs_l22_alive : List IRes := [.t 0]
theorem ok_l22_alive : fnOk Try.prog 16 ic_l22_alive rs_l22_alive 55 = true := by kernel_rfl

/-- tallyman/tallymanlaw22.TaskChecks -/
def ic_l22_TaskChecks : ICode :=
 .seq (.ops 0 false [⟨some 2, .box (.t 0), none, false, false, [0]⟩,
  ⟨some 3, .box (.t 1), none, false, false, [1]⟩,
  ⟨some 4, .mv (.c (.bool false)), none, false, false, [4]⟩])
 (.seq (.seq (.ops 1 false [⟨some 5, .fa 8 (.t 2), none, false, false, []⟩,
  ⟨some 6, .ld none [] (.t 5), none, false, false, [5]⟩,
  ⟨some 7, .len (.t 6), none, false, false, [6]⟩,
  ⟨some 8, .bin .gtr (.t 7) (.c (.int .i64 60)), none, false, false, [7]⟩,
  ⟨some 9, .mv (.t 8), none, false, false, [8]⟩,
  ⟨some 10, .fa 7 (.t 3), (some (9, false)), true, false, []⟩,
  ⟨some 11, .ld none [] (.o 10), (some (9, false)), true, false, [10]⟩,
  ⟨some 12, .len (.o 11), (some (9, false)), true, false, [11]⟩,
  ⟨some 13, .bin .gtr (.o 12) (.c (.int .i64 60)), (some (9, false)), true, false, [12]⟩,
  ⟨some 14, .pick (.t 9) (.c (.bool true)) (.t 13), none, false, false, [9, 13]⟩])
 (.cond (.t 14)
  (.seq (.ops 2 false [⟨some 15, .call (.c (.fn 16 [] [])) [], none, false, false, []⟩,
   ⟨some 4, .mv (.t 15), none, false, false, [15]⟩])
  (.ret))
  (.skip)))
 (.seq (.ops 3 true [⟨some 16, .ld (some 9) [] (.t 2), none, false, false, []⟩,
  ⟨some 17, .call (.c (.fn 27 [] [])) [.t 16], none, false, false, [16]⟩,
  ⟨some 18, .ld (some 9) [] (.t 2), none, false, false, [2]⟩,
  ⟨some 19, .call (.c (.fn 29 [] [])) [.t 18], none, false, false, [18]⟩,
  ⟨some 20, .bin .eql (.t 17) (.t 19), none, false, false, [17, 19]⟩,
  ⟨some 21, .mv (.t 20), none, false, false, [20]⟩,
  ⟨some 22, .ld (some 8) [] (.t 3), (some (21, true)), true, false, []⟩,
  ⟨some 23, .call (.c (.fn 26 [] [])) [.o 22], (some (21, true)), true, false, [22]⟩,
  ⟨some 24, .ld (some 8) [] (.t 3), (some (21, true)), true, false, [3]⟩,
  ⟨some 25, .call (.c (.fn 28 [] [])) [.o 24], (some (21, true)), true, false, [24]⟩,
  ⟨some 26, .bin .eql (.o 23) (.o 25), (some (21, true)), true, false, [23, 25]⟩,
  ⟨some 27, .pick (.t 21) (.t 26) (.c (.bool false)), none, false, false, [21, 26]⟩,
  ⟨some 28, .mv (.t 27), none, false, false, [27]⟩,
  ⟨some 29, .call (.c (.fn 16 [] [])) [], (some (28, true)), true, false, []⟩,
  ⟨some 30, .pick (.t 28) (.t 29) (.c (.bool false)), none, false, false, [28, 29]⟩,
  ⟨some 4, .mv (.t 30), none, false, false, [30]⟩])
 (.ret)))
def rs_l22_TaskChecks : List IRes := [.t 4]
/-- tallyman/tallymanlaw22.TaskWants -/
def ic_l22_TaskWants : ICode :=
 .seq (.ops 0 false [⟨some 5, .box (.t 0), none, false, false, [0]⟩,
  ⟨some 6, .box (.t 1), none, false, false, [1]⟩,
  ⟨some 10, .mv (.c (.bool false)), none, false, false, [10]⟩])
 (.seq (.seq (.ops 1 false [⟨some 24, .fa 7 (.t 5), none, false, false, []⟩,
  ⟨some 25, .ld none [] (.t 24), none, false, false, [24]⟩,
  ⟨some 26, .len (.t 25), none, false, false, [25]⟩,
  ⟨some 27, .bin .gtr (.t 26) (.c (.int .i64 40)), none, false, false, [26]⟩,
  ⟨some 28, .mv (.t 27), none, false, false, [27]⟩,
  ⟨some 29, .ld (some 8) [] (.t 5), (some (28, false)), true, false, []⟩,
  ⟨some 30, .call (.c (.fn 26 [] [])) [.o 29], (some (28, false)), true, false, [29]⟩,
  ⟨some 31, .bin .neq (.o 30) (.c (.int .i64 0)), (some (28, false)), true, false, [30]⟩,
  ⟨some 32, .pick (.t 28) (.c (.bool true)) (.t 31), none, false, false, [28, 31]⟩,
  ⟨some 33, .mv (.t 32), none, false, false, [32]⟩,
  ⟨some 34, .ld (some 9) [] (.t 6), (some (33, false)), true, false, []⟩,
  ⟨some 35, .call (.c (.fn 27 [] [])) [.o 34], (some (33, false)), true, false, [34]⟩,
  ⟨some 36, .bin .neq (.o 35) (.c (.int .i64 0)), (some (33, false)), true, false, [35]⟩,
  ⟨some 37, .pick (.t 33) (.c (.bool true)) (.t 36), none, false, false, [33, 36]⟩,
  ⟨some 38, .mv (.t 37), none, false, false, [37]⟩,
  ⟨some 39, .ld (some 8) [] (.t 5), (some (38, false)), true, false, []⟩,
  ⟨some 40, .call (.c (.fn 28 [] [])) [.o 39], (some (38, false)), true, false, [39]⟩,
  ⟨some 41, .bin .neq (.o 40) (.c (.int .i64 0)), (some (38, false)), true, false, [40]⟩,
  ⟨some 42, .pick (.t 38) (.c (.bool true)) (.t 41), none, false, false, [38, 41]⟩,
  ⟨some 43, .mv (.t 42), none, false, false, [42]⟩,
  ⟨some 44, .ld (some 9) [] (.t 6), (some (43, false)), true, false, []⟩,
  ⟨some 45, .call (.c (.fn 29 [] [])) [.o 44], (some (43, false)), true, false, [44]⟩,
  ⟨some 46, .bin .neq (.o 45) (.c (.int .i64 0)), (some (43, false)), true, false, [45]⟩,
  ⟨some 47, .pick (.t 43) (.c (.bool true)) (.t 46), none, false, false, [43, 46]⟩])
 (.cond (.t 47)
  (.seq (.ops 2 false [⟨some 48, .call (.c (.fn 16 [] [])) [], none, false, false, []⟩,
   ⟨some 10, .mv (.t 48), none, false, false, [48]⟩])
  (.ret))
  (.skip)))
 (.seq (.ops 3 false [⟨some 49, .ld (some 8) [] (.t 5), none, false, false, []⟩,
  ⟨some 50, .ld (some 9) [] (.t 6), none, false, false, []⟩,
  ⟨some 51, .call (.c (.fn 18 [] [])) [.t 49, .t 50], none, false, false, [49, 50]⟩,
  ⟨some 11, .mv (.t 51), none, false, false, [51]⟩])
 (.seq (.seq (.ops 4 false [⟨some 52, .mv (.t 11), none, false, false, []⟩,
  ⟨some 53, .len (.t 52), none, false, false, []⟩,
  ⟨some 54, .mv (.c (.int .i64 0)), none, false, false, []⟩])
 (.block 0 (.loop [2, 3, 4, 5, 6, 11, 52, 53, 54] (.seq (.ops 5 false [⟨some 55, .bin .lss (.t 54) (.t 53), none, false, false, []⟩])
   (.seq (.cond (.t 55)
    (.skip)
    (.exit 0))
   (.seq (.block 1 (.seq (.ops 6 false [⟨some 56, .mv (.t 54), none, false, false, []⟩,
     ⟨some 57, .ia 1 [.int .i64 0] (.t 52) (.t 54), none, false, false, []⟩,
     ⟨some 58, .ld none [.int .i64 0] (.t 57), none, false, false, [57]⟩,
     ⟨some 12, .mv (.t 56), none, false, false, [56]⟩,
     ⟨some 13, .mv (.t 58), none, false, false, [58]⟩])
    (.seq (.ops 7 false [⟨some 14, .mv (.c (.bool false)), none, false, false, []⟩])
    (.seq (.seq (.ops 8 false [⟨some 59, .fa 7 (.t 5), none, false, false, []⟩,
     ⟨some 60, .ld none [] (.t 59), none, false, false, [59]⟩,
     ⟨some 61, .len (.t 60), none, false, false, []⟩,
     ⟨some 62, .mv (.c (.int .i64 0)), none, false, false, []⟩])
    (.block 2 (.loop [2, 3, 4, 5, 6, 11, 12, 13, 14, 52, 53, 54, 60, 61, 62] (.seq (.ops 9 false [⟨some 63, .bin .lss (.t 62) (.t 61), none, false, false, []⟩])
      (.seq (.cond (.t 63)
       (.skip)
       (.exit 2))
      (.seq (.block 3 (.seq (.ops 10 false [⟨some 64, .ia 5 [.int .i64 0, .int .i64 0, .int .i64 0, .int .i64 0, .int .i64 0] (.t 60) (.t 62), none, false, false, []⟩,
        ⟨some 65, .ld (some 5) [.int .i64 0, .int .i64 0, .int .i64 0, .int .i64 0, .int .i64 0] (.t 64), none, false, false, [64]⟩,
        ⟨some 16, .alloc [.int .i64 0, .int .i64 0, .int .i64 0, .int .i64 0, .int .i64 0], none, false, false, []⟩,
        ⟨none, .st 5 (.t 16) (.t 65), none, false, false, [65]⟩])
       (.ops 11 false [⟨some 66, .mv (.t 14), none, false, false, [14]⟩,
        ⟨some 67, .mv (.t 66), none, false, false, [66]⟩,
        ⟨some 68, .fa 0 (.t 16), (some (67, false)), true, false, [16]⟩,
        ⟨some 69, .ld none [] (.o 68), (some (67, false)), true, false, [68]⟩,
        ⟨some 70, .mv (.t 13), (some (67, false)), true, false, []⟩,
        ⟨some 71, .bin .eql (.o 69) (.o 70), (some (67, false)), true, false, [69, 70]⟩,
        ⟨some 72, .pick (.t 67) (.c (.bool true)) (.t 71), none, false, false, [67, 71]⟩,
        ⟨some 14, .mv (.t 72), none, false, false, [72]⟩])))
      (.ops 12 false [⟨some 73, .bin .add (.t 62) (.c (.int .i64 1)), none, false, false, [62]⟩,
       ⟨some 62, .mv (.t 73), none, false, false, [73]⟩])))))))
    (.seq (.ops 13 false [⟨some 74, .mv (.t 14), none, false, false, [14]⟩,
     ⟨some 75, .not (.t 74), none, false, false, [74]⟩,
     ⟨some 76, .mv (.t 75), none, false, false, [75]⟩,
     ⟨some 77, .mv (.t 12), (some (76, false)), true, false, []⟩,
     ⟨some 78, .bin .gtr (.o 77) (.c (.int .i64 0)), (some (76, false)), true, false, [77]⟩,
     ⟨some 79, .mv (.o 78), (some (76, false)), true, false, [78]⟩,
     ⟨some 80, .mv (.t 11), (some (79, true)), true, false, []⟩,
     ⟨some 81, .mv (.t 12), (some (79, true)), true, false, [12]⟩,
     ⟨some 82, .bin .sub (.o 81) (.c (.int .i64 1)), (some (79, true)), true, false, [81]⟩,
     ⟨some 83, .ia 1 [.int .i64 0] (.o 80) (.o 82), (some (79, true)), true, false, [80, 82]⟩,
     ⟨some 84, .ld none [.int .i64 0] (.o 83), (some (79, true)), true, false, [83]⟩,
     ⟨some 85, .mv (.t 13), (some (79, true)), true, false, [13]⟩,
     ⟨some 86, .bin .geq (.o 84) (.o 85), (some (79, true)), true, false, [84, 85]⟩,
     ⟨some 87, .pick (.o 79) (.t 86) (.c (.bool false)), (some (76, false)), true, false, [79, 86]⟩,
     ⟨some 88, .pick (.t 76) (.c (.bool true)) (.t 87), none, false, false, [76, 87]⟩])
    (.cond (.t 88)
     (.seq (.ops 14 false [⟨some 10, .mv (.c (.bool false)), none, false, false, []⟩])
     (.ret))
     (.skip)))))))
   (.ops 15 false [⟨some 89, .bin .add (.t 54) (.c (.int .i64 1)), none, false, false, [54]⟩,
    ⟨some 54, .mv (.t 89), none, false, false, [89]⟩])))))))
 (.seq (.seq (.ops 16 false [⟨some 90, .fa 4 (.t 6), none, false, false, []⟩,
  ⟨some 91, .ld (some 2) [] (.t 90), none, false, false, [90]⟩,
  ⟨some 92, .fa 6 (.t 6), none, false, false, []⟩,
  ⟨some 93, .ld (some 2) [] (.t 92), none, false, false, [92]⟩,
  ⟨some 94, .rowView 2 [.t 91, .t 93], none, false, false, [91, 93]⟩,
  ⟨some 95, .len (.t 94), none, false, false, []⟩,
  ⟨some 96, .mv (.c (.int .i64 0)), none, false, false, []⟩])
 (.block 4 (.loop [2, 3, 4, 5, 6, 11, 94, 95, 96] (.seq (.ops 17 false [⟨some 97, .bin .lss (.t 96) (.t 95), none, false, false, []⟩])
   (.seq (.cond (.t 97)
    (.skip)
    (.exit 4))
   (.seq (.block 5 (.seq (.ops 18 false [⟨some 98, .ia 2 [.int .i64 0, .int .i64 0] (.t 94) (.t 96), none, false, false, []⟩,
     ⟨some 99, .ld (some 2) [.int .i64 0, .int .i64 0] (.t 98), none, false, false, [98]⟩,
     ⟨some 18, .alloc [.int .i64 0, .int .i64 0], none, false, false, []⟩,
     ⟨none, .st 2 (.t 18) (.t 99), none, false, false, [99]⟩])
    (.seq (.ops 19 false [⟨some 101, .fa 7 (.t 5), none, false, false, []⟩,
     ⟨some 102, .ld none [] (.t 101), none, false, false, [101]⟩,
     ⟨some 103, .ld (some 2) [] (.t 18), none, false, false, [18]⟩,
     ⟨some 104, .call (.c (.fn 30 [] [])) [.t 102, .t 103], none, false, false, [102, 103]⟩,
     ⟨some 100, .mv (.t 104), none, false, false, [104]⟩,
     ⟨some 105, .ext 0 (.t 100), none, false, false, []⟩,
     ⟨some 106, .ext 1 (.t 100), none, false, false, [100]⟩,
     ⟨some 19, .mv (.t 105), none, false, false, [105]⟩,
     ⟨some 20, .mv (.t 106), none, false, false, [106]⟩])
    (.seq (.ops 20 false [⟨some 107, .mv (.t 20), none, false, false, [20]⟩])
    (.cond (.t 107)
     (.seq (.ops 21 false [⟨some 21, .mv (.c (.bool false)), none, false, false, []⟩])
     (.seq (.seq (.ops 22 false [⟨some 108, .mv (.t 11), none, false, false, []⟩,
      ⟨some 109, .len (.t 108), none, false, false, []⟩,
      ⟨some 110, .mv (.c (.int .i64 0)), none, false, false, []⟩])
     (.block 6 (.loop [2, 3, 4, 5, 6, 11, 19, 21, 94, 95, 96, 108, 109, 110] (.seq (.ops 23 false [⟨some 111, .bin .lss (.t 110) (.t 109), none, false, false, []⟩])
       (.seq (.cond (.t 111)
        (.skip)
        (.exit 6))
       (.seq (.block 7 (.seq (.ops 24 false [⟨some 112, .ia 1 [.int .i64 0] (.t 108) (.t 110), none, false, false, []⟩,
         ⟨some 113, .ld none [.int .i64 0] (.t 112), none, false, false, [112]⟩,
         ⟨some 23, .mv (.t 113), none, false, false, [113]⟩])
        (.ops 25 false [⟨some 114, .mv (.t 21), none, false, false, [21]⟩,
         ⟨some 115, .mv (.t 114), none, false, false, [114]⟩,
         ⟨some 116, .mv (.t 23), (some (115, false)), true, false, [23]⟩,
         ⟨some 117, .mv (.t 19), (some (115, false)), true, false, []⟩,
         ⟨some 118, .bin .eql (.o 116) (.o 117), (some (115, false)), true, false, [116, 117]⟩,
         ⟨some 119, .pick (.t 115) (.c (.bool true)) (.t 118), none, false, false, [115, 118]⟩,
         ⟨some 21, .mv (.t 119), none, false, false, [119]⟩])))
       (.ops 26 false [⟨some 120, .bin .add (.t 110) (.c (.int .i64 1)), none, false, false, [110]⟩,
        ⟨some 110, .mv (.t 120), none, false, false, [120]⟩])))))))
     (.seq (.ops 27 false [⟨some 121, .mv (.t 21), none, false, false, [21]⟩,
      ⟨some 122, .not (.t 121), none, false, false, [121]⟩])
     (.cond (.t 122)
      (.seq (.ops 28 false [⟨some 10, .mv (.c (.bool false)), none, false, false, []⟩])
      (.ret))
      (.skip)))))
     (.skip))))))
   (.ops 29 false [⟨some 123, .bin .add (.t 96) (.c (.int .i64 1)), none, false, false, [96]⟩,
    ⟨some 96, .mv (.t 123), none, false, false, [123]⟩])))))))
 (.seq (.seq (.ops 30 false [⟨some 124, .mv (.t 11), none, false, false, [11]⟩,
  ⟨some 125, .len (.t 124), none, false, false, [124]⟩,
  ⟨some 126, .fa 7 (.t 5), none, false, false, []⟩,
  ⟨some 127, .ld none [] (.t 126), none, false, false, [126]⟩,
  ⟨some 128, .len (.t 127), none, false, false, [127]⟩,
  ⟨some 129, .bin .gtr (.t 125) (.t 128), none, false, false, [125, 128]⟩,
  ⟨some 130, .mv (.t 129), none, false, false, [129]⟩,
  ⟨some 131, .fa 7 (.t 5), (some (130, false)), true, false, [5]⟩,
  ⟨some 132, .ld none [] (.o 131), (some (130, false)), true, false, [131]⟩,
  ⟨some 133, .call (.c (.fn 31 [] [])) [.o 132], (some (130, false)), true, false, [132]⟩,
  ⟨some 134, .not (.o 133), (some (130, false)), true, false, [133]⟩,
  ⟨some 135, .pick (.t 130) (.c (.bool true)) (.t 134), none, false, false, [130, 134]⟩])
 (.cond (.t 135)
  (.seq (.ops 31 false [⟨some 10, .mv (.c (.bool false)), none, false, false, []⟩])
  (.ret))
  (.skip)))
 (.seq (.ops 32 false [⟨some 136, .ld (some 9) [] (.t 6), none, false, false, []⟩,
  ⟨some 137, .mv (.t 2), none, false, false, []⟩,
  ⟨some 138, .mv (.t 4), none, false, false, []⟩,
  ⟨some 139, .call (.c (.fn 20 [] [])) [.t 136, .t 137, .t 138], none, false, false, [136, 137, 138]⟩,
  ⟨some 140, .not (.t 139), none, false, false, [139]⟩,
  ⟨some 141, .mv (.t 140), none, false, false, [140]⟩,
  ⟨some 142, .ld (some 9) [] (.t 6), (some (141, false)), true, false, []⟩,
  ⟨some 143, .mv (.t 2), (some (141, false)), true, false, []⟩,
  ⟨some 144, .mv (.t 3), (some (141, false)), true, false, []⟩,
  ⟨some 145, .binw .or (.o 143) (.o 144), (some (141, false)), true, false, [143, 144]⟩,
  ⟨some 146, .mv (.t 4), (some (141, false)), true, false, []⟩,
  ⟨some 147, .call (.c (.fn 20 [] [])) [.o 142, .o 145, .o 146], (some (141, false)), true, false, [142, 145, 146]⟩,
  ⟨some 148, .mv (.o 147), (some (141, false)), true, false, [147]⟩,
  ⟨some 149, .ld (some 9) [] (.t 6), (some (148, true)), true, false, [6]⟩,
  ⟨some 150, .mv (.t 2), (some (148, true)), true, false, [2]⟩,
  ⟨some 151, .mv (.t 4), (some (148, true)), true, false, [4]⟩,
  ⟨some 152, .mv (.t 3), (some (148, true)), true, false, [3]⟩,
  ⟨some 153, .binw .or (.o 151) (.o 152), (some (148, true)), true, false, [151, 152]⟩,
  ⟨some 154, .call (.c (.fn 20 [] [])) [.o 149, .o 150, .o 153], (some (148, true)), true, false, [149, 150, 153]⟩,
  ⟨some 155, .pick (.o 148) (.t 154) (.c (.bool false)), (some (141, false)), true, false, [148, 154]⟩,
  ⟨some 156, .pick (.t 141) (.c (.bool true)) (.t 155), none, false, false, [141, 155]⟩,
  ⟨some 157, .mv (.t 156), none, false, false, [156]⟩,
  ⟨some 158, .call (.c (.fn 16 [] [])) [], (some (157, true)), true, false, []⟩,
  ⟨some 159, .pick (.t 157) (.t 158) (.c (.bool false)), none, false, false, [157, 158]⟩,
  ⟨some 10, .mv (.t 159), none, false, false, [159]⟩])
 (.ret)))))))
def rs_l22_TaskWants : List IRes := [.t 10]
theorem ok_l22_TaskWants : fnOk Try.prog 6 ic_l22_TaskWants rs_l22_TaskWants 160 = true := by kernel_rfl

/-- tallyman/tallymanlaw22.TaskAsks -/
def ic_l22_TaskAsks : ICode :=
 .seq (.ops 0 false [⟨some 5, .box (.t 0), none, false, false, [0]⟩,
  ⟨some 6, .box (.t 1), none, false, false, [1]⟩,
  ⟨some 7, .box (.t 2), none, false, false, [2]⟩,
  ⟨some 8, .box (.t 3), none, false, false, [3]⟩,
  ⟨some 9, .box (.t 4), none, false, false, [4]⟩,
  ⟨some 10, .mv (.c (.bool false)), none, false, false, [10]⟩])
 (.seq (.seq (.ops 1 false [⟨some 12, .fa 8 (.t 7), none, false, false, []⟩,
  ⟨some 13, .ld none [] (.t 12), none, false, false, [12]⟩,
  ⟨some 14, .len (.t 13), none, false, false, [13]⟩,
  ⟨some 15, .bin .gtr (.t 14) (.c (.int .i64 60)), none, false, false, [14]⟩,
  ⟨some 16, .mv (.t 15), none, false, false, [15]⟩,
  ⟨some 17, .fa 8 (.t 8), (some (16, false)), true, false, []⟩,
  ⟨some 18, .ld none [] (.o 17), (some (16, false)), true, false, [17]⟩,
  ⟨some 19, .len (.o 18), (some (16, false)), true, false, [18]⟩,
  ⟨some 20, .bin .gtr (.o 19) (.c (.int .i64 60)), (some (16, false)), true, false, [19]⟩,
  ⟨some 21, .pick (.t 16) (.c (.bool true)) (.t 20), none, false, false, [16, 20]⟩,
  ⟨some 22, .mv (.t 21), none, false, false, [21]⟩,
  ⟨some 23, .fa 7 (.t 5), (some (22, false)), true, false, []⟩,
  ⟨some 24, .ld none [] (.o 23), (some (22, false)), true, false, [23]⟩,
  ⟨some 25, .len (.o 24), (some (22, false)), true, false, [24]⟩,
  ⟨some 26, .bin .gtr (.o 25) (.c (.int .i64 40)), (some (22, false)), true, false, [25]⟩,
  ⟨some 27, .pick (.t 22) (.c (.bool true)) (.t 26), none, false, false, [22, 26]⟩,
  ⟨some 28, .mv (.t 27), none, false, false, [27]⟩,
  ⟨some 29, .fa 7 (.t 6), (some (28, false)), true, false, []⟩,
  ⟨some 30, .ld none [] (.o 29), (some (28, false)), true, false, [29]⟩,
  ⟨some 31, .len (.o 30), (some (28, false)), true, false, [30]⟩,
  ⟨some 32, .bin .gtr (.o 31) (.c (.int .i64 40)), (some (28, false)), true, false, [31]⟩,
  ⟨some 33, .pick (.t 28) (.c (.bool true)) (.t 32), none, false, false, [28, 32]⟩])
 (.cond (.t 33)
  (.seq (.ops 2 false [⟨some 34, .call (.c (.fn 16 [] [])) [], none, false, false, []⟩,
   ⟨some 10, .mv (.t 34), none, false, false, [34]⟩])
  (.ret))
  (.skip)))
 (.seq (.ops 3 false [⟨some 35, .ld (some 9) [] (.t 7), none, false, false, []⟩,
  ⟨some 36, .call (.c (.fn 17 [] [])) [.t 35], none, false, false, [35]⟩,
  ⟨some 11, .alloc [.int .i64 0, .int .i64 0, .int .u64 0, .int .u64 0, .int .i64 0, .int .i64 0, .int .i64 0, .int .i64 0, .nils], none, false, false, []⟩,
  ⟨none, .st 9 (.t 11) (.t 36), none, false, false, [36]⟩])
 (.seq (.ops 4 true [⟨some 37, .ld (some 8) [] (.t 5), none, false, false, []⟩,
  ⟨some 38, .ld (some 9) [] (.t 7), none, false, false, []⟩,
  ⟨some 39, .call (.c (.fn 18 [] [])) [.t 37, .t 38], none, false, false, [37, 38]⟩,
  ⟨some 40, .ld (some 8) [] (.t 5), none, false, false, []⟩,
  ⟨some 41, .ld (some 9) [] (.t 7), none, false, false, []⟩,
  ⟨some 42, .call (.c (.fn 19 [] [])) [.t 40, .t 41], none, false, false, [40, 41]⟩,
  ⟨some 43, .call (.c (.fn 13 [] [])) [.t 39, .t 42], none, false, false, [39, 42]⟩,
  ⟨some 44, .mv (.t 43), none, false, false, [43]⟩,
  ⟨some 45, .ld (some 9) [] (.t 7), (some (44, true)), true, false, []⟩,
  ⟨some 46, .iaa 2 1 (.t 9) (.c (.int .i64 0)), (some (44, true)), true, false, []⟩,
  ⟨some 47, .ld none [] (.o 46), (some (44, true)), true, false, [46]⟩,
  ⟨some 48, .iaa 2 1 (.t 9) (.c (.int .i64 1)), (some (44, true)), true, false, []⟩,
  ⟨some 49, .ld none [] (.o 48), (some (44, true)), true, false, [48]⟩,
  ⟨some 50, .call (.c (.fn 20 [] [])) [.o 45, .o 47, .o 49], (some (44, true)), true, false, [45, 47, 49]⟩,
  ⟨some 51, .ld (some 9) [] (.t 7), (some (44, true)), true, false, []⟩,
  ⟨some 52, .iaa 2 1 (.t 9) (.c (.int .i64 0)), (some (44, true)), true, false, []⟩,
  ⟨some 53, .ld none [] (.o 52), (some (44, true)), true, false, [52]⟩,
  ⟨some 54, .iaa 2 1 (.t 9) (.c (.int .i64 1)), (some (44, true)), true, false, [9]⟩,
  ⟨some 55, .ld none [] (.o 54), (some (44, true)), true, false, [54]⟩,
  ⟨some 56, .call (.c (.fn 21 [] [])) [.o 51, .o 53, .o 55], (some (44, true)), true, false, [51, 53, 55]⟩,
  ⟨some 57, .eqb false (.o 50) (.o 56), (some (44, true)), true, false, [50, 56]⟩,
  ⟨some 58, .pick (.t 44) (.t 57) (.c (.bool false)), none, false, false, [44, 57]⟩,
  ⟨some 59, .mv (.t 58), none, false, false, [58]⟩,
  ⟨some 60, .ld (some 9) [] (.t 7), (some (59, true)), true, false, []⟩,
  ⟨some 61, .ld (some 9) [] (.t 8), (some (59, true)), true, false, []⟩,
  ⟨some 62, .call (.c (.fn 22 [] [])) [.o 60, .o 61], (some (59, true)), true, false, [60, 61]⟩,
  ⟨some 63, .ld (some 9) [] (.t 7), (some (59, true)), true, false, []⟩,
  ⟨some 64, .ld (some 9) [] (.t 8), (some (59, true)), true, false, [8]⟩,
  ⟨some 65, .call (.c (.fn 23 [] [])) [.o 63, .o 64], (some (59, true)), true, false, [63, 64]⟩,
  ⟨some 66, .eqb false (.o 62) (.o 65), (some (59, true)), true, false, [62, 65]⟩,
  ⟨some 67, .pick (.t 59) (.t 66) (.c (.bool false)), none, false, false, [59, 66]⟩,
  ⟨some 68, .mv (.t 67), none, false, false, [67]⟩,
  ⟨some 69, .ld (some 8) [] (.t 5), (some (68, true)), true, false, []⟩,
  ⟨some 70, .ld (some 8) [] (.t 6), (some (68, true)), true, false, []⟩,
  ⟨some 71, .call (.c (.fn 24 [] [])) [.o 69, .o 70], (some (68, true)), true, false, [69, 70]⟩,
  ⟨some 72, .ld (some 8) [] (.t 5), (some (68, true)), true, false, [5]⟩,
  ⟨some 73, .ld (some 8) [] (.t 6), (some (68, true)), true, false, [6]⟩,
  ⟨some 74, .call (.c (.fn 25 [] [])) [.o 72, .o 73], (some (68, true)), true, false, [72, 73]⟩,
  ⟨some 75, .eqb false (.o 71) (.o 74), (some (68, true)), true, false, [71, 74]⟩,
  ⟨some 76, .pick (.t 68) (.t 75) (.c (.bool false)), none, false, false, [68, 75]⟩,
  ⟨some 77, .mv (.t 76), none, false, false, [76]⟩,
  ⟨some 78, .ld (some 9) [] (.t 11), (some (77, true)), true, false, [11]⟩,
  ⟨some 79, .ld (some 9) [] (.t 7), (some (77, true)), true, false, [7]⟩,
  ⟨some 80, .call (.c (.fn 23 [] [])) [.o 78, .o 79], (some (77, true)), true, false, [78, 79]⟩,
  ⟨some 81, .pick (.t 77) (.t 80) (.c (.bool false)), none, false, false, [77, 80]⟩,
  ⟨some 82, .mv (.t 81), none, false, false, [81]⟩,
  ⟨some 83, .call (.c (.fn 16 [] [])) [], (some (82, true)), true, false, []⟩,
  ⟨some 84, .pick (.t 82) (.t 83) (.c (.bool false)), none, false, false, [82, 83]⟩,
  ⟨some 10, .mv (.t 84), none, false, false, [84]⟩])
 (.ret))))
def rs_l22_TaskAsks : List IRes := [.t 10]
theorem ok_l22_TaskAsks : fnOk Try.prog 5 ic_l22_TaskAsks rs_l22_TaskAsks 85 = true := by kernel_rfl

end Go.Proofs.Ytfjidignjjaihaa.Sx
