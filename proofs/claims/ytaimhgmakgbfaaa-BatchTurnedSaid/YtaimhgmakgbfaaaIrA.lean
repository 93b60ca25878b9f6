/- Functions of the seat in the small language. No conditions: a kit of our own. -/
import Derived.Test.YtaimhgmakgbfaaaProg
import Derived.Test.YtaimhgmakgbfaaaSx17
namespace Go.Proofs.Ytaimhgmakgbfaaa.Sx
open Go Go.RowKit
set_option linter.unusedVariables false

/-- slices.Contains(()int,int) -/
def ic_slices_Contains_int_int : ICode :=
 .seq (.ops 0 false [⟨some 4, .mv (.c (.bool false)), none, false, false, [4]⟩])
 (.seq (.ops 1 false [⟨some 5, .mv (.t 0), none, false, false, [0]⟩,
  ⟨some 6, .mv (.t 1), none, false, false, [1]⟩,
  ⟨some 7, .call (.c (.fn 146 [] [])) [.t 5, .t 6], none, false, false, [5, 6]⟩,
  ⟨some 8, .bin .geq (.t 7) (.c (.int .i64 0)), none, false, false, [7]⟩,
  ⟨some 4, .mv (.t 8), none, false, false, [8]⟩])
 (.ret))
def rs_slices_Contains_int_int : List IRes := [.t 4]
theorem ok_slices_Contains_int_int : fnOk Try.prog 82 ic_slices_Contains_int_int rs_slices_Contains_int_int 9 = true := by kernel_rfl

/-- slices.Index(()int,int) -/
def ic_slices_Index_int_int : ICode :=
 .seq (.ops 0 false [⟨some 4, .mv (.c (.int .i64 0)), none, false, false, [4]⟩])
 (.seq (.seq (.ops 1 false [⟨some 6, .mv (.t 0), none, false, false, []⟩,
  ⟨some 7, .len (.t 6), none, false, false, [6]⟩,
  ⟨some 8, .mv (.c (.int .i64 0)), none, false, false, []⟩])
 (.block 0 (.loop [0, 1, 7, 8] (.seq (.ops 2 false [⟨some 9, .bin .lss (.t 8) (.t 7), none, false, false, []⟩])
   (.seq (.cond (.t 9)
    (.skip)
    (.exit 0))
   (.seq (.block 1 (.seq (.ops 3 false [⟨some 10, .mv (.t 8), none, false, false, []⟩,
     ⟨some 5, .mv (.t 10), none, false, false, [10]⟩])
    (.seq (.ops 4 false [⟨some 11, .mv (.t 1), none, false, false, []⟩,
     ⟨some 12, .mv (.t 0), none, false, false, []⟩,
     ⟨some 13, .mv (.t 5), none, false, false, []⟩,
     ⟨some 14, .ia 1 [.int .i64 0] (.t 12) (.t 13), none, false, false, [12, 13]⟩,
     ⟨some 15, .ld none [.int .i64 0] (.t 14), none, false, false, [14]⟩,
     ⟨some 16, .bin .eql (.t 11) (.t 15), none, false, false, [11, 15]⟩])
    (.cond (.t 16)
     (.seq (.ops 5 false [⟨some 17, .mv (.t 5), none, false, false, [5]⟩,
      ⟨some 4, .mv (.t 17), none, false, false, [17]⟩])
     (.ret))
     (.skip)))))
   (.ops 6 false [⟨some 18, .bin .add (.t 8) (.c (.int .i64 1)), none, false, false, [8]⟩,
    ⟨some 8, .mv (.t 18), none, false, false, [18]⟩])))))))
 (.seq (.ops 7 false [⟨some 4, .mv (.c (.int .i64 (-1))), none, false, false, []⟩])
 (.ret)))
def rs_slices_Index_int_int : List IRes := [.t 4]
theorem ok_slices_Index_int_int : fnOk Try.prog 146 ic_slices_Index_int_int rs_slices_Index_int_int 19 = true := by kernel_rfl

/-- tallyman/idset.Has -/
def ic_idset_Has : ICode :=
 .seq (.ops 0 false [⟨some 4, .mv (.c (.bool false)), none, false, false, [4]⟩])
 (.seq (.ops 1 false [⟨some 5, .mv (.t 0), none, false, false, [0]⟩,
  ⟨some 6, .mv (.t 1), none, false, false, [1]⟩,
  ⟨some 7, .call (.c (.fn 82 [] [])) [.t 5, .t 6], none, false, false, [5, 6]⟩,
  ⟨some 4, .mv (.t 7), none, false, false, [7]⟩])
 (.ret))
def rs_idset_Has : List IRes := [.t 4]
theorem ok_idset_Has : fnOk Try.prog 149 ic_idset_Has rs_idset_Has 8 = true := by kernel_rfl

/-- tallyman/idset.Right -/
def ic_idset_Right : ICode :=
 .seq (.ops 0 false [⟨some 2, .mv (.c (.bool false)), none, false, false, [2]⟩])
 (.back [0, 3] (.seq (.ops 1 false [⟨some 3, .mv (.c (.int .i64 1)), none, false, false, []⟩])
 (.label 0)) 0
  (.seq (.seq (.ops 2 false [⟨some 4, .mv (.t 3), none, false, false, []⟩,
   ⟨some 5, .mv (.t 0), none, false, false, []⟩,
   ⟨some 6, .len (.t 5), none, false, false, [5]⟩,
   ⟨some 7, .bin .geq (.t 4) (.t 6), none, false, false, [4, 6]⟩])
  (.cond (.t 7)
   (.seq (.ops 3 false [⟨some 2, .mv (.c (.bool true)), none, false, false, []⟩])
   (.ret))
   (.skip)))
  (.seq (.seq (.ops 4 true [⟨some 8, .mv (.t 0), none, false, false, []⟩,
   ⟨some 9, .mv (.t 3), none, false, false, []⟩,
   ⟨some 10, .bin .sub (.t 9) (.c (.int .i64 1)), none, false, false, [9]⟩,
   ⟨some 11, .ia 1 [.int .i64 0] (.t 8) (.t 10), none, false, false, [8, 10]⟩,
   ⟨some 12, .ld none [.int .i64 0] (.t 11), none, false, false, [11]⟩,
   ⟨some 13, .mv (.t 0), none, false, false, []⟩,
   ⟨some 14, .mv (.t 3), none, false, false, []⟩,
   ⟨some 15, .ia 1 [.int .i64 0] (.t 13) (.t 14), none, false, false, [13, 14]⟩,
   ⟨some 16, .ld none [.int .i64 0] (.t 15), none, false, false, [15]⟩,
   ⟨some 17, .bin .lss (.t 12) (.t 16), none, false, false, [12, 16]⟩])
  (.cond (.t 17)
   (.seq (.ops 5 false [⟨some 18, .mv (.t 3), none, false, false, [3]⟩,
    ⟨some 19, .bin .add (.t 18) (.c (.int .i64 1)), none, false, false, [18]⟩,
    ⟨some 3, .mv (.t 19), none, false, false, [19]⟩])
   (.goto 0))
   (.skip)))
  (.seq (.ops 6 false [⟨some 2, .mv (.c (.bool false)), none, false, false, []⟩])
  (.ret)))))
def rs_idset_Right : List IRes := [.t 2]
theorem ok_idset_Right : fnOk Try.prog 113 ic_idset_Right rs_idset_Right 20 = true := by kernel_rfl

/-- tallyman/tallymanref01.Ints -/
def ic_r01_Ints : ICode :=
 .seq (.ops 0 false [⟨some 4, .mv (.c (.bool false)), none, false, false, [4]⟩])
 (.seq (.seq (.ops 1 false [⟨some 6, .mv (.t 0), none, false, false, []⟩,
  ⟨some 7, .len (.t 6), none, false, false, [6]⟩,
  ⟨some 8, .mv (.t 1), none, false, false, []⟩,
  ⟨some 9, .len (.t 8), none, false, false, [8]⟩,
  ⟨some 10, .bin .neq (.t 7) (.t 9), none, false, false, [7, 9]⟩])
 (.cond (.t 10)
  (.seq (.ops 2 false [⟨some 4, .mv (.c (.bool false)), none, false, false, []⟩])
  (.ret))
  (.skip)))
 (.seq (.seq (.ops 3 false [⟨some 5, .mv (.c (.int .i64 0)), none, false, false, []⟩])
 (.block 0 (.loop [0, 1, 5] (.seq (.seq (.ops 4 false [⟨some 11, .mv (.t 5), none, false, false, []⟩,
    ⟨some 12, .mv (.t 0), none, false, false, []⟩,
    ⟨some 13, .len (.t 12), none, false, false, [12]⟩,
    ⟨some 14, .bin .lss (.t 11) (.t 13), none, false, false, [11, 13]⟩])
   (.cond (.t 14)
    (.skip)
    (.exit 0)))
   (.seq (.block 1 (.seq (.ops 6 true [⟨some 17, .mv (.t 0), none, false, false, []⟩,
     ⟨some 18, .mv (.t 5), none, false, false, []⟩,
     ⟨some 19, .ia 1 [.int .i64 0] (.t 17) (.t 18), none, false, false, [17, 18]⟩,
     ⟨some 20, .ld none [.int .i64 0] (.t 19), none, false, false, [19]⟩,
     ⟨some 21, .mv (.t 1), none, false, false, []⟩,
     ⟨some 22, .mv (.t 5), none, false, false, []⟩,
     ⟨some 23, .ia 1 [.int .i64 0] (.t 21) (.t 22), none, false, false, [21, 22]⟩,
     ⟨some 24, .ld none [.int .i64 0] (.t 23), none, false, false, [23]⟩,
     ⟨some 25, .bin .neq (.t 20) (.t 24), none, false, false, [20, 24]⟩])
    (.cond (.t 25)
     (.seq (.ops 7 false [⟨some 4, .mv (.c (.bool false)), none, false, false, []⟩])
     (.ret))
     (.skip))))
   (.ops 5 false [⟨some 15, .mv (.t 5), none, false, false, [5]⟩,
    ⟨some 16, .bin .add (.t 15) (.c (.int .i64 1)), none, false, false, [15]⟩,
    ⟨some 5, .mv (.t 16), none, false, false, [16]⟩]))))))
 (.seq (.ops 8 false [⟨some 4, .mv (.c (.bool true)), none, false, false, []⟩])
 (.ret))))
def rs_r01_Ints : List IRes := [.t 4]
theorem ok_r01_Ints : fnOk Try.prog 22 ic_r01_Ints rs_r01_Ints 26 = true := by kernel_rfl

/-- tallyman/tallymanref22.Few -/
def ic_r22_Few : ICode :=
 .seq (.ops 0 false [⟨some 4, .mv (.c (.bool false)), none, false, false, [4]⟩])
 (.seq (.seq (.ops 1 false [⟨some 6, .mv (.t 0), none, false, false, []⟩,
  ⟨some 7, .len (.t 6), none, false, false, [6]⟩,
  ⟨some 8, .mv (.t 1), none, false, false, [1]⟩,
  ⟨some 9, .bin .gtr (.t 7) (.t 8), none, false, false, [7, 8]⟩])
 (.cond (.t 9)
  (.seq (.ops 2 false [⟨some 4, .mv (.c (.bool false)), none, false, false, []⟩])
  (.ret))
  (.skip)))
 (.seq (.seq (.ops 3 false [⟨some 5, .mv (.c (.int .i64 0)), none, false, false, []⟩])
 (.block 0 (.loop [0, 5] (.seq (.seq (.ops 4 false [⟨some 10, .mv (.t 5), none, false, false, []⟩,
    ⟨some 11, .mv (.t 0), none, false, false, []⟩,
    ⟨some 12, .len (.t 11), none, false, false, [11]⟩,
    ⟨some 13, .bin .lss (.t 10) (.t 12), none, false, false, [10, 12]⟩])
   (.cond (.t 13)
    (.skip)
    (.exit 0)))
   (.seq (.block 1 (.seq (.ops 6 false [⟨some 16, .mv (.t 0), none, false, false, []⟩,
     ⟨some 17, .mv (.t 5), none, false, false, []⟩,
     ⟨some 18, .ia 9 [.int .i64 0, .int .i64 0, .int .u64 0, .int .u64 0, .int .i64 0, .int .i64 0, .int .i64 0, .int .i64 0, .view []] (.t 16) (.t 17), none, false, false, [16, 17]⟩,
     ⟨some 19, .fa 8 (.t 18), none, false, false, [18]⟩,
     ⟨some 20, .ld none [.int .i64 0, .int .i64 0, .int .u64 0, .int .u64 0, .int .i64 0, .int .i64 0, .int .i64 0, .int .i64 0, .view []] (.t 19), none, false, false, [19]⟩,
     ⟨some 21, .len (.t 20), none, false, false, [20]⟩,
     ⟨some 22, .bin .gtr (.t 21) (.c (.int .i64 20)), none, false, false, [21]⟩])
    (.cond (.t 22)
     (.seq (.ops 7 false [⟨some 4, .mv (.c (.bool false)), none, false, false, []⟩])
     (.ret))
     (.skip))))
   (.ops 5 false [⟨some 14, .mv (.t 5), none, false, false, [5]⟩,
    ⟨some 15, .bin .add (.t 14) (.c (.int .i64 1)), none, false, false, [14]⟩,
    ⟨some 5, .mv (.t 15), none, false, false, [15]⟩]))))))
 (.seq (.ops 8 false [⟨some 4, .mv (.c (.bool true)), none, false, false, []⟩])
 (.ret))))
def rs_r22_Few : List IRes := [.t 4]
theorem ok_r22_Few : fnOk Try.prog 45 ic_r22_Few rs_r22_Few 23 = true := by kernel_rfl

/-- tallyman/task.Check -/
def ic_task_Check : ICode :=
 .seq (.ops 0 false [⟨some 1, .box (.t 0), none, false, false, [0]⟩,
  ⟨some 2, .mv (.c (.int .i64 0)), none, false, false, [2]⟩])
 (.seq (.seq (.ops 1 true [⟨some 6, .fa 0 (.t 1), none, false, false, []⟩,
  ⟨some 7, .ld none [] (.t 6), none, false, false, [6]⟩,
  ⟨some 8, .call (.c (.fn 154 [] [])) [.t 7], none, false, false, [7]⟩,
  ⟨some 9, .fa 1 (.t 1), none, false, false, []⟩,
  ⟨some 10, .ld none [] (.t 9), none, false, false, [9]⟩,
  ⟨some 11, .build [.int .i64 0, .int .i64 0, .int .i64 0] [(0, 1, .t 10), (1, 1, .c (.int .i64 0)), (2, 1, .c (.int .i64 1048575))], none, false, false, [10]⟩,
  ⟨some 12, .fa 4 (.t 1), none, false, false, []⟩,
  ⟨some 13, .fa 0 (.t 12), none, false, false, [12]⟩,
  ⟨some 14, .ld none [] (.t 13), none, false, false, [13]⟩,
  ⟨some 15, .call (.c (.fn 155 [] [])) [.t 14], none, false, false, [14]⟩,
  ⟨some 16, .fa 4 (.t 1), none, false, false, []⟩,
  ⟨some 17, .fa 1 (.t 16), none, false, false, [16]⟩,
  ⟨some 18, .ld none [] (.t 17), none, false, false, [17]⟩,
  ⟨some 19, .call (.c (.fn 155 [] [])) [.t 18], none, false, false, [18]⟩,
  ⟨some 20, .fa 6 (.t 1), none, false, false, []⟩,
  ⟨some 21, .fa 0 (.t 20), none, false, false, [20]⟩,
  ⟨some 22, .ld none [] (.t 21), none, false, false, [21]⟩,
  ⟨some 23, .call (.c (.fn 155 [] [])) [.t 22], none, false, false, [22]⟩,
  ⟨some 24, .fa 6 (.t 1), none, false, false, []⟩,
  ⟨some 25, .fa 1 (.t 24), none, false, false, [24]⟩,
  ⟨some 26, .ld none [] (.t 25), none, false, false, [25]⟩,
  ⟨some 27, .call (.c (.fn 155 [] [])) [.t 26], none, false, false, [26]⟩,
  ⟨some 28, .rowView 3 [.t 8, .t 11, .t 15, .t 19, .t 23, .t 27], none, false, false, [8, 11, 15, 19, 23, 27]⟩,
  ⟨some 29, .call (.c (.fn 103 [] [])) [.t 28], none, false, false, [28]⟩,
  ⟨some 30, .not (.t 29), none, false, false, [29]⟩])
 (.cond (.t 30)
  (.seq (.ops 2 false [⟨some 2, .mv (.c (.int .i64 2)), none, false, false, []⟩])
  (.ret))
  (.skip)))
 (.seq (.ops 3 false [⟨some 3, .mv (.c (.nils)), none, false, false, []⟩])
 (.seq (.seq (.ops 4 false [⟨some 31, .fa 8 (.t 1), none, false, false, []⟩,
  ⟨some 32, .ld none [] (.t 31), none, false, false, [31]⟩,
  ⟨some 33, .len (.t 32), none, false, false, []⟩,
  ⟨some 34, .mv (.c (.int .i64 0)), none, false, false, []⟩])
 (.block 0 (.loop [1, 3, 32, 33, 34] (.seq (.ops 5 false [⟨some 35, .bin .lss (.t 34) (.t 33), none, false, false, []⟩])
   (.seq (.cond (.t 35)
    (.skip)
    (.exit 0))
   (.seq (.block 1 (.seq (.ops 6 false [⟨some 36, .ia 1 [.int .i64 0] (.t 32) (.t 34), none, false, false, []⟩,
     ⟨some 37, .ld none [.int .i64 0] (.t 36), none, false, false, [36]⟩,
     ⟨some 5, .mv (.t 37), none, false, false, [37]⟩])
    (.ops 7 false [⟨some 38, .mv (.t 3), none, false, false, [3]⟩,
     ⟨some 39, .mv (.t 5), none, false, false, [5]⟩,
     ⟨some 40, .call (.c (.fn 154 [] [])) [.t 39], none, false, false, [39]⟩,
     ⟨some 41, .rowView 3 [.t 40], none, false, false, [40]⟩,
     ⟨some 42, .app 3 (.t 38) (.t 41), none, false, false, [38, 41]⟩,
     ⟨some 3, .mv (.t 42), none, false, false, [42]⟩])))
   (.ops 8 false [⟨some 43, .bin .add (.t 34) (.c (.int .i64 1)), none, false, false, [34]⟩,
    ⟨some 34, .mv (.t 43), none, false, false, [43]⟩])))))))
 (.seq (.seq (.ops 9 false [⟨some 44, .fa 8 (.t 1), none, false, false, []⟩,
  ⟨some 45, .ld none [] (.t 44), none, false, false, [44]⟩,
  ⟨some 46, .len (.t 45), none, false, false, [45]⟩,
  ⟨some 47, .bin .gtr (.t 46) (.c (.int .i64 8)), none, false, false, [46]⟩,
  ⟨some 48, .mv (.t 47), none, false, false, [47]⟩,
  ⟨some 49, .fa 8 (.t 1), (some (48, false)), true, false, []⟩,
  ⟨some 50, .ld none [] (.o 49), (some (48, false)), true, false, [49]⟩,
  ⟨some 51, .call (.c (.fn 113 [] [])) [.o 50], (some (48, false)), true, false, [50]⟩,
  ⟨some 52, .not (.o 51), (some (48, false)), true, false, [51]⟩,
  ⟨some 53, .pick (.t 48) (.c (.bool true)) (.t 52), none, false, false, [48, 52]⟩,
  ⟨some 54, .mv (.t 53), none, false, false, [53]⟩,
  ⟨some 55, .fa 8 (.t 1), (some (54, false)), true, false, []⟩,
  ⟨some 56, .ld none [] (.o 55), (some (54, false)), true, false, [55]⟩,
  ⟨some 57, .fa 0 (.t 1), (some (54, false)), true, false, [1]⟩,
  ⟨some 58, .ld none [] (.o 57), (some (54, false)), true, false, [57]⟩,
  ⟨some 59, .call (.c (.fn 149 [] [])) [.o 56, .o 58], (some (54, false)), true, false, [56, 58]⟩,
  ⟨some 60, .pick (.t 54) (.c (.bool true)) (.t 59), none, false, false, [54, 59]⟩,
  ⟨some 61, .mv (.t 60), none, false, false, [60]⟩,
  ⟨some 62, .mv (.t 3), (some (61, false)), true, false, [3]⟩,
  ⟨some 63, .call (.c (.fn 103 [] [])) [.o 62], (some (61, false)), true, false, [62]⟩,
  ⟨some 64, .not (.o 63), (some (61, false)), true, false, [63]⟩,
  ⟨some 65, .pick (.t 61) (.c (.bool true)) (.t 64), none, false, false, [61, 64]⟩])
 (.cond (.t 65)
  (.seq (.ops 10 false [⟨some 2, .mv (.c (.int .i64 1)), none, false, false, []⟩])
  (.ret))
  (.skip)))
 (.seq (.ops 11 false [⟨some 2, .mv (.c (.int .i64 0)), none, false, false, []⟩])
 (.ret))))))
def rs_task_Check : List IRes := [.t 2]
theorem ok_task_Check : fnOk Try.prog 93 ic_task_Check rs_task_Check 66 = true := by kernel_rfl

/-- tallyman/task.all -/
def ic_task_all : ICode :=
 .seq (.ops 0 false [⟨some 2, .mv (.c (.bool false)), none, false, false, [2]⟩])
 (.back [0, 3] (.seq (.ops 1 false [⟨some 3, .mv (.c (.int .i64 0)), none, false, false, []⟩])
 (.label 0)) 0
  (.seq (.seq (.ops 2 false [⟨some 4, .mv (.t 3), none, false, false, []⟩,
   ⟨some 5, .mv (.t 0), none, false, false, []⟩,
   ⟨some 6, .len (.t 5), none, false, false, [5]⟩,
   ⟨some 7, .bin .eql (.t 4) (.t 6), none, false, false, [4, 6]⟩])
  (.cond (.t 7)
   (.seq (.ops 3 false [⟨some 2, .mv (.c (.bool true)), none, false, false, []⟩])
   (.ret))
   (.skip)))
  (.seq (.seq (.ops 4 true [⟨some 8, .mv (.t 0), none, false, false, []⟩,
   ⟨some 9, .mv (.t 3), none, false, false, []⟩,
   ⟨some 10, .ia 3 [.int .i64 0, .int .i64 0, .int .i64 0] (.t 8) (.t 9), none, false, false, [8, 9]⟩,
   ⟨some 11, .fa 0 (.t 10), none, false, false, [10]⟩,
   ⟨some 12, .ld none [.int .i64 0, .int .i64 0, .int .i64 0] (.t 11), none, false, false, [11]⟩,
   ⟨some 13, .mv (.t 0), none, false, false, []⟩,
   ⟨some 14, .mv (.t 3), none, false, false, []⟩,
   ⟨some 15, .ia 3 [.int .i64 0, .int .i64 0, .int .i64 0] (.t 13) (.t 14), none, false, false, [13, 14]⟩,
   ⟨some 16, .fa 1 (.t 15), none, false, false, [15]⟩,
   ⟨some 17, .ld none [.int .i64 0, .int .i64 0, .int .i64 0] (.t 16), none, false, false, [16]⟩,
   ⟨some 18, .bin .lss (.t 12) (.t 17), none, false, false, [12, 17]⟩,
   ⟨some 19, .mv (.t 18), none, false, false, [18]⟩,
   ⟨some 20, .mv (.t 0), (some (19, false)), true, false, []⟩,
   ⟨some 21, .mv (.t 3), (some (19, false)), true, false, []⟩,
   ⟨some 22, .ia 3 [.int .i64 0, .int .i64 0, .int .i64 0] (.o 20) (.o 21), (some (19, false)), true, false, [20, 21]⟩,
   ⟨some 23, .fa 0 (.o 22), (some (19, false)), true, false, [22]⟩,
   ⟨some 24, .ld none [.int .i64 0, .int .i64 0, .int .i64 0] (.o 23), (some (19, false)), true, false, [23]⟩,
   ⟨some 25, .mv (.t 0), (some (19, false)), true, false, []⟩,
   ⟨some 26, .mv (.t 3), (some (19, false)), true, false, []⟩,
   ⟨some 27, .ia 3 [.int .i64 0, .int .i64 0, .int .i64 0] (.o 25) (.o 26), (some (19, false)), true, false, [25, 26]⟩,
   ⟨some 28, .fa 2 (.o 27), (some (19, false)), true, false, [27]⟩,
   ⟨some 29, .ld none [.int .i64 0, .int .i64 0, .int .i64 0] (.o 28), (some (19, false)), true, false, [28]⟩,
   ⟨some 30, .bin .gtr (.o 24) (.o 29), (some (19, false)), true, false, [24, 29]⟩,
   ⟨some 31, .pick (.t 19) (.c (.bool true)) (.t 30), none, false, false, [19, 30]⟩])
  (.cond (.t 31)
   (.seq (.ops 5 false [⟨some 2, .mv (.c (.bool false)), none, false, false, []⟩])
   (.ret))
   (.skip)))
  (.seq (.ops 6 false [⟨some 32, .mv (.t 3), none, false, false, [3]⟩,
   ⟨some 33, .bin .add (.t 32) (.c (.int .i64 1)), none, false, false, [32]⟩,
   ⟨some 3, .mv (.t 33), none, false, false, [33]⟩])
  (.goto 0)))))
def rs_task_all : List IRes := [.t 2]
theorem ok_task_all : fnOk Try.prog 103 ic_task_all rs_task_all 34 = true := by kernel_rfl

/-- tallyman/task.id -/
def ic_task_id : ICode :=
 .seq (.ops 0 false [⟨some 2, .alloc [.int .i64 0, .int .i64 0, .int .i64 0], none, false, false, []⟩])
 (.seq (.ops 1 false [⟨some 3, .mv (.t 0), none, false, false, [0]⟩,
  ⟨some 4, .build [.int .i64 0, .int .i64 0, .int .i64 0] [(0, 1, .t 3), (1, 1, .c (.int .i64 1)), (2, 1, .c (.int .i64 999))], none, false, false, [3]⟩,
  ⟨none, .st 3 (.t 2) (.t 4), none, false, false, [4]⟩])
 (.ret))
def rs_task_id : List IRes := [.cell 2 (some 3)]
theorem ok_task_id : fnOk Try.prog 154 ic_task_id rs_task_id 5 = true := by kernel_rfl

/-- tallyman/task.wide -/
def ic_task_wide : ICode :=
 .seq (.ops 0 false [⟨some 2, .alloc [.int .i64 0, .int .i64 0, .int .i64 0], none, false, false, []⟩])
 (.seq (.ops 1 false [⟨some 3, .mv (.t 0), none, false, false, [0]⟩,
  ⟨some 4, .build [.int .i64 0, .int .i64 0, .int .i64 0] [(0, 1, .t 3), (1, 1, .c (.int .i64 (-1000))), (2, 1, .c (.int .i64 1000))], none, false, false, [3]⟩,
  ⟨none, .st 3 (.t 2) (.t 4), none, false, false, [4]⟩])
 (.ret))
def rs_task_wide : List IRes := [.cell 2 (some 3)]
theorem ok_task_wide : fnOk Try.prog 155 ic_task_wide rs_task_wide 5 = true := by kernel_rfl

end Go.Proofs.Ytaimhgmakgbfaaa.Sx
