/- Functions of the seat in the small language. No conditions: a kit of our own. -/
import Derived.Test.YtnckibgcjgeekaaGreatProg
import Derived.Test.YtnckibgcjgeekaaGreatSx17
namespace Go.Proofs.YtnckibgcjgeekaaGreat.Sx
open Go Go.RowKit
set_option linter.unusedVariables false

/-- slices.ContainsFunc(()tallyman/api.Aisle,tallyman/api.Aisle) -/
def ic_slices_ContainsFunc_api_Aisle_api_Aisle : ICode :=
 .seq (.ops 0 false [⟨some 4, .mv (.c (.bool false)), none, false, false, [4]⟩])
 (.seq (.ops 1 false [⟨some 5, .mv (.t 0), none, false, false, [0]⟩,
  ⟨some 6, .mv (.t 1), none, false, false, [1]⟩,
  ⟨some 7, .call (.c (.fn 148 [] [])) [.t 5, .t 6], none, false, false, [5, 6]⟩,
  ⟨some 8, .bin .geq (.t 7) (.c (.int .i64 0)), none, false, false, [7]⟩,
  ⟨some 4, .mv (.t 8), none, false, false, [8]⟩])
 (.ret))
def rs_slices_ContainsFunc_api_Aisle_api_Aisle : List IRes := [.t 4]
theorem ok_slices_ContainsFunc_api_Aisle_api_Aisle : fnOk Tryz.prog 134 ic_slices_ContainsFunc_api_Aisle_api_Aisle rs_slices_ContainsFunc_api_Aisle_api_Aisle 9 = true := by kernel_rfl

/-- slices.DeleteFunc(()int,int) -/
def ic_slices_DeleteFunc_int_int : ICode :=
 .seq (.ops 0 false [⟨some 4, .mv (.c (.nils)), none, false, false, [4]⟩])
 (.seq (.ops 1 false [⟨some 8, .mv (.t 0), none, false, false, []⟩,
  ⟨some 9, .mv (.t 1), none, false, false, []⟩,
  ⟨some 10, .call (.c (.fn 138 [] [])) [.t 8, .t 9], none, false, false, [8, 9]⟩,
  ⟨some 5, .mv (.t 10), none, false, false, [10]⟩])
 (.seq (.seq (.ops 2 false [⟨some 11, .mv (.t 5), none, false, false, []⟩,
  ⟨some 12, .bin .eql (.t 11) (.c (.int .i64 (-1))), none, false, false, [11]⟩])
 (.cond (.t 12)
  (.seq (.ops 3 false [⟨some 13, .mv (.t 0), none, false, false, [0]⟩,
   ⟨some 4, .mv (.t 13), none, false, false, [13]⟩])
  (.ret))
  (.skip)))
 (.seq (.seq (.ops 4 false [⟨some 14, .mv (.t 5), none, false, false, []⟩,
  ⟨some 15, .bin .add (.t 14) (.c (.int .i64 1)), none, false, false, [14]⟩,
  ⟨some 6, .mv (.t 15), none, false, false, [15]⟩])
 (.block 0 (.loop [0, 1, 5, 6] (.seq (.seq (.ops 5 false [⟨some 16, .mv (.t 6), none, false, false, []⟩,
    ⟨some 17, .mv (.t 0), none, false, false, []⟩,
    ⟨some 18, .len (.t 17), none, false, false, [17]⟩,
    ⟨some 19, .bin .lss (.t 16) (.t 18), none, false, false, [16, 18]⟩])
   (.cond (.t 19)
    (.skip)
    (.exit 0)))
   (.seq (.block 1 (.seq (.ops 7 false [⟨some 22, .mv (.t 0), none, false, false, []⟩,
     ⟨some 23, .mv (.t 6), none, false, false, []⟩,
     ⟨some 24, .ia 1 [.int .i64 0] (.t 22) (.t 23), none, false, false, [22, 23]⟩,
     ⟨some 25, .ld none [.int .i64 0] (.t 24), none, false, false, [24]⟩,
     ⟨some 7, .mv (.t 25), none, false, false, [25]⟩])
    (.seq (.ops 8 false [⟨some 26, .mv (.t 1), none, false, false, []⟩,
     ⟨some 27, .mv (.t 7), none, false, false, []⟩,
     ⟨some 28, .call (.t 26) [.t 27], none, false, false, [26, 27]⟩,
     ⟨some 29, .not (.t 28), none, false, false, [28]⟩])
    (.cond (.t 29)
     (.seq (.ops 9 false [⟨some 30, .mv (.t 0), none, false, false, []⟩,
      ⟨some 31, .mv (.t 5), none, false, false, []⟩,
      ⟨some 32, .mv (.t 7), none, false, false, [7]⟩,
      ⟨some 33, .ia 1 [.int .i64 0] (.t 30) (.t 31), none, false, false, [30, 31]⟩,
      ⟨none, .st 1 (.t 33) (.t 32), none, false, false, [32, 33]⟩])
     (.ops 10 false [⟨some 34, .mv (.t 5), none, false, false, [5]⟩,
      ⟨some 35, .bin .add (.t 34) (.c (.int .i64 1)), none, false, false, [34]⟩,
      ⟨some 5, .mv (.t 35), none, false, false, [35]⟩]))
     (.skip)))))
   (.ops 6 false [⟨some 20, .mv (.t 6), none, false, false, [6]⟩,
    ⟨some 21, .bin .add (.t 20) (.c (.int .i64 1)), none, false, false, [20]⟩,
    ⟨some 6, .mv (.t 21), none, false, false, [21]⟩]))))))
 (.seq (.ops 11 false [⟨some 36, .mv (.t 0), none, false, false, []⟩,
  ⟨some 37, .mv (.t 5), none, false, false, []⟩,
  ⟨some 38, .slc 1 (.t 36) (some (.t 37)) none, none, false, false, [36, 37]⟩,
  ⟨none, .clr 1 [.int .i64 0] (.t 38), none, false, false, [38]⟩])
 (.seq (.ops 12 false [⟨some 39, .mv (.t 0), none, false, false, [0]⟩,
  ⟨some 40, .mv (.t 5), none, false, false, [5]⟩,
  ⟨some 41, .slc 1 (.t 39) none (some (.t 40)), none, false, false, [39, 40]⟩,
  ⟨some 4, .mv (.t 41), none, false, false, [41]⟩])
 (.ret))))))
def rs_slices_DeleteFunc_int_int : List IRes := [.t 4]
theorem ok_slices_DeleteFunc_int_int : fnOk Tryz.prog 114 ic_slices_DeleteFunc_int_int rs_slices_DeleteFunc_int_int 42 = true := by kernel_rfl

/-- slices.IndexFunc(()int,int) -/
def ic_slices_IndexFunc_int_int : ICode :=
 .seq (.ops 0 false [⟨some 4, .mv (.c (.int .i64 0)), none, false, false, [4]⟩])
 (.seq (.seq (.ops 1 false [⟨some 6, .mv (.t 0), none, false, false, []⟩,
  ⟨some 7, .len (.t 6), none, false, false, [6]⟩,
  ⟨some 8, .mv (.c (.int .i64 0)), none, false, false, []⟩])
 (.block 0 (.loop [0, 1, 7, 8] (.seq (.ops 2 false [⟨some 9, .bin .lss (.t 8) (.t 7), none, false, false, []⟩])
   (.seq (.cond (.t 9)
    (.skip)
    (.exit 0))
   (.seq (.block 1 (.seq (.ops 3 false [⟨some 10, .mv (.t 8), none, false, false, []⟩,
     ⟨some 5, .mv (.t 10), none, false, false, [10]⟩])
    (.seq (.ops 4 false [⟨some 11, .mv (.t 1), none, false, false, []⟩,
     ⟨some 12, .mv (.t 0), none, false, false, []⟩,
     ⟨some 13, .mv (.t 5), none, false, false, []⟩,
     ⟨some 14, .ia 1 [.int .i64 0] (.t 12) (.t 13), none, false, false, [12, 13]⟩,
     ⟨some 15, .ld none [.int .i64 0] (.t 14), none, false, false, [14]⟩,
     ⟨some 16, .call (.t 11) [.t 15], none, false, false, [11, 15]⟩])
    (.cond (.t 16)
     (.seq (.ops 5 false [⟨some 17, .mv (.t 5), none, false, false, [5]⟩,
      ⟨some 4, .mv (.t 17), none, false, false, [17]⟩])
     (.ret))
     (.skip)))))
   (.ops 6 false [⟨some 18, .bin .add (.t 8) (.c (.int .i64 1)), none, false, false, [8]⟩,
    ⟨some 8, .mv (.t 18), none, false, false, [18]⟩])))))))
 (.seq (.ops 7 false [⟨some 4, .mv (.c (.int .i64 (-1))), none, false, false, []⟩])
 (.ret)))
def rs_slices_IndexFunc_int_int : List IRes := [.t 4]
theorem ok_slices_IndexFunc_int_int : fnOk Tryz.prog 138 ic_slices_IndexFunc_int_int rs_slices_IndexFunc_int_int 19 = true := by kernel_rfl

/-- slices.IndexFunc(()tallyman/api.Aisle,tallyman/api.Aisle) -/
def ic_slices_IndexFunc_api_Aisle_api_Aisle : ICode :=
 .seq (.ops 0 false [⟨some 4, .mv (.c (.int .i64 0)), none, false, false, [4]⟩])
 (.seq (.seq (.ops 1 false [⟨some 6, .mv (.t 0), none, false, false, []⟩,
  ⟨some 7, .len (.t 6), none, false, false, [6]⟩,
  ⟨some 8, .mv (.c (.int .i64 0)), none, false, false, []⟩])
 (.block 0 (.loop [0, 1, 7, 8] (.seq (.ops 2 false [⟨some 9, .bin .lss (.t 8) (.t 7), none, false, false, []⟩])
   (.seq (.cond (.t 9)
    (.skip)
    (.exit 0))
   (.seq (.block 1 (.seq (.ops 3 false [⟨some 10, .mv (.t 8), none, false, false, []⟩,
     ⟨some 5, .mv (.t 10), none, false, false, [10]⟩])
    (.seq (.ops 4 false [⟨some 11, .mv (.t 1), none, false, false, []⟩,
     ⟨some 12, .mv (.t 0), none, false, false, []⟩,
     ⟨some 13, .mv (.t 5), none, false, false, []⟩,
     ⟨some 14, .ia 5 [.int .i64 0, .int .i64 0, .int .i64 0, .int .i64 0, .int .i64 0] (.t 12) (.t 13), none, false, false, [12, 13]⟩,
     ⟨some 15, .ld (some 5) [.int .i64 0, .int .i64 0, .int .i64 0, .int .i64 0, .int .i64 0] (.t 14), none, false, false, [14]⟩,
     ⟨some 16, .call (.t 11) [.t 15], none, false, false, [11, 15]⟩])
    (.cond (.t 16)
     (.seq (.ops 5 false [⟨some 17, .mv (.t 5), none, false, false, [5]⟩,
      ⟨some 4, .mv (.t 17), none, false, false, [17]⟩])
     (.ret))
     (.skip)))))
   (.ops 6 false [⟨some 18, .bin .add (.t 8) (.c (.int .i64 1)), none, false, false, [8]⟩,
    ⟨some 8, .mv (.t 18), none, false, false, [18]⟩])))))))
 (.seq (.ops 7 false [⟨some 4, .mv (.c (.int .i64 (-1))), none, false, false, []⟩])
 (.ret)))
def rs_slices_IndexFunc_api_Aisle_api_Aisle : List IRes := [.t 4]
theorem ok_slices_IndexFunc_api_Aisle_api_Aisle : fnOk Tryz.prog 148 ic_slices_IndexFunc_api_Aisle_api_Aisle rs_slices_IndexFunc_api_Aisle_api_Aisle 19 = true := by kernel_rfl

/-- tallyman/plan.Meet -/
def ic_plan_Meet : ICode :=
 .seq (.ops 0 false [⟨some 2, .box (.t 0), none, false, false, [0]⟩,
  ⟨some 3, .box (.t 1), none, false, false, [1]⟩,
  ⟨some 4, .mv (.c (.bool false)), none, false, false, [4]⟩])
 (.seq (.ops 1 false [⟨some 6, .fa 1 (.t 2), none, false, false, []⟩,
  ⟨some 7, .fa 0 (.t 6), none, false, false, [6]⟩,
  ⟨some 8, .ld none [] (.t 7), none, false, false, [7]⟩,
  ⟨some 9, .fa 1 (.t 3), none, false, false, []⟩,
  ⟨some 10, .fa 0 (.t 9), none, false, false, [9]⟩,
  ⟨some 11, .ld none [] (.t 10), none, false, false, [10]⟩,
  ⟨some 12, .mx [.t 8, .t 11], none, false, false, [8, 11]⟩,
  ⟨some 13, .fa 1 (.t 2), none, false, false, []⟩,
  ⟨some 14, .fa 1 (.t 13), none, false, false, [13]⟩,
  ⟨some 15, .ld none [] (.t 14), none, false, false, [14]⟩,
  ⟨some 16, .fa 1 (.t 3), none, false, false, []⟩,
  ⟨some 17, .fa 1 (.t 16), none, false, false, [16]⟩,
  ⟨some 18, .ld none [] (.t 17), none, false, false, [17]⟩,
  ⟨some 19, .mx [.t 15, .t 18], none, false, false, [15, 18]⟩,
  ⟨some 20, .build [.int .i64 0, .int .i64 0] [(0, 1, .t 12), (1, 1, .t 19)], none, false, false, [12, 19]⟩,
  ⟨some 21, .fa 3 (.t 2), none, false, false, []⟩,
  ⟨some 22, .fa 0 (.t 21), none, false, false, [21]⟩,
  ⟨some 23, .ld none [] (.t 22), none, false, false, [22]⟩,
  ⟨some 24, .fa 3 (.t 3), none, false, false, []⟩,
  ⟨some 25, .fa 0 (.t 24), none, false, false, [24]⟩,
  ⟨some 26, .ld none [] (.t 25), none, false, false, [25]⟩,
  ⟨some 27, .mn [.t 23, .t 26], none, false, false, [23, 26]⟩,
  ⟨some 28, .fa 3 (.t 2), none, false, false, [2]⟩,
  ⟨some 29, .fa 1 (.t 28), none, false, false, [28]⟩,
  ⟨some 30, .ld none [] (.t 29), none, false, false, [29]⟩,
  ⟨some 31, .fa 3 (.t 3), none, false, false, [3]⟩,
  ⟨some 32, .fa 1 (.t 31), none, false, false, [31]⟩,
  ⟨some 33, .ld none [] (.t 32), none, false, false, [32]⟩,
  ⟨some 34, .mn [.t 30, .t 33], none, false, false, [30, 33]⟩,
  ⟨some 35, .build [.int .i64 0, .int .i64 0] [(0, 1, .t 27), (1, 1, .t 34)], none, false, false, [27, 34]⟩,
  ⟨some 36, .build [.int .i64 0, .int .i64 0, .int .i64 0, .int .i64 0, .int .i64 0] [(1, 2, .t 20), (3, 2, .t 35)], none, false, false, [20, 35]⟩,
  ⟨some 5, .alloc [.int .i64 0, .int .i64 0, .int .i64 0, .int .i64 0, .int .i64 0], none, false, false, []⟩,
  ⟨none, .st 5 (.t 5) (.t 36), none, false, false, [36]⟩])
 (.seq (.ops 2 false [⟨some 37, .ld (some 5) [] (.t 5), none, false, false, []⟩,
  ⟨some 38, .fa 1 (.t 5), none, false, false, [5]⟩,
  ⟨some 39, .ld (some 2) [] (.t 38), none, false, false, [38]⟩,
  ⟨some 40, .call (.c (.fn 133 [] [])) [.t 37, .t 39], none, false, false, [37, 39]⟩,
  ⟨some 4, .mv (.t 40), none, false, false, [40]⟩])
 (.ret)))
def rs_plan_Meet : List IRes := [.t 4]
theorem ok_plan_Meet : fnOk Tryz.prog 136 ic_plan_Meet rs_plan_Meet 41 = true := by kernel_rfl

/-- tallyman/plan.Right -/
def ic_plan_Right : ICode :=
 .seq (.ops 0 false [⟨some 2, .mv (.c (.bool false)), none, false, false, [2]⟩])
 (.back [0, 3, 4] (.seq (.seq (.ops 1 false [⟨some 6, .mv (.t 0), none, false, false, []⟩,
   ⟨some 7, .len (.t 6), none, false, false, [6]⟩,
   ⟨some 8, .bin .gtr (.t 7) (.c (.int .i64 32)), none, false, false, [7]⟩])
  (.cond (.t 8)
   (.seq (.ops 2 false [⟨some 2, .mv (.c (.bool false)), none, false, false, []⟩])
   (.ret))
   (.skip)))
 (.seq (.ops 3 false [⟨some 3, .mv (.c (.int .i64 0)), none, false, false, []⟩,
   ⟨some 4, .mv (.c (.int .i64 0)), none, false, false, []⟩])
 (.label 0))) 0
  (.seq (.seq (.ops 4 false [⟨some 9, .mv (.t 4), none, false, false, []⟩,
   ⟨some 10, .mv (.t 0), none, false, false, []⟩,
   ⟨some 11, .len (.t 10), none, false, false, [10]⟩,
   ⟨some 12, .bin .eql (.t 9) (.t 11), none, false, false, [9, 11]⟩])
  (.cond (.t 12)
   (.seq (.ops 5 false [⟨some 2, .mv (.c (.bool true)), none, false, false, []⟩])
   (.ret))
   (.skip)))
  (.seq (.ops 6 false [⟨some 13, .mv (.t 0), none, false, false, []⟩,
   ⟨some 14, .mv (.t 4), none, false, false, []⟩,
   ⟨some 15, .ia 5 [.int .i64 0, .int .i64 0, .int .i64 0, .int .i64 0, .int .i64 0] (.t 13) (.t 14), none, false, false, [13, 14]⟩,
   ⟨some 16, .ld (some 5) [.int .i64 0, .int .i64 0, .int .i64 0, .int .i64 0, .int .i64 0] (.t 15), none, false, false, [15]⟩,
   ⟨some 5, .alloc [.int .i64 0, .int .i64 0, .int .i64 0, .int .i64 0, .int .i64 0], none, false, false, []⟩,
   ⟨none, .st 5 (.t 5) (.t 16), none, false, false, [16]⟩])
  (.seq (.seq (.ops 7 false [⟨some 17, .fa 0 (.t 5), none, false, false, []⟩,
   ⟨some 18, .ld none [] (.t 17), none, false, false, [17]⟩,
   ⟨some 19, .mv (.t 3), none, false, false, [3]⟩,
   ⟨some 20, .bin .leq (.t 18) (.t 19), none, false, false, [18, 19]⟩,
   ⟨some 21, .mv (.t 20), none, false, false, [20]⟩,
   ⟨some 22, .fa 0 (.t 5), (some (21, false)), true, false, []⟩,
   ⟨some 23, .ld none [] (.o 22), (some (21, false)), true, false, [22]⟩,
   ⟨some 24, .bin .gtr (.o 23) (.c (.int .i64 999)), (some (21, false)), true, false, [23]⟩,
   ⟨some 25, .pick (.t 21) (.c (.bool true)) (.t 24), none, false, false, [21, 24]⟩,
   ⟨some 26, .mv (.t 25), none, false, false, [25]⟩,
   ⟨some 27, .fa 1 (.t 5), (some (26, false)), true, false, []⟩,
   ⟨some 28, .ld (some 2) [] (.o 27), (some (26, false)), true, false, [27]⟩,
   ⟨some 29, .call (.c (.fn 132 [] [])) [.o 28], (some (26, false)), true, false, [28]⟩,
   ⟨some 30, .not (.o 29), (some (26, false)), true, false, [29]⟩,
   ⟨some 31, .pick (.t 26) (.c (.bool true)) (.t 30), none, false, false, [26, 30]⟩,
   ⟨some 32, .mv (.t 31), none, false, false, [31]⟩,
   ⟨some 33, .fa 3 (.t 5), (some (32, false)), true, false, []⟩,
   ⟨some 34, .ld (some 2) [] (.o 33), (some (32, false)), true, false, [33]⟩,
   ⟨some 35, .call (.c (.fn 132 [] [])) [.o 34], (some (32, false)), true, false, [34]⟩,
   ⟨some 36, .not (.o 35), (some (32, false)), true, false, [35]⟩,
   ⟨some 37, .pick (.t 32) (.c (.bool true)) (.t 36), none, false, false, [32, 36]⟩,
   ⟨some 38, .mv (.t 37), none, false, false, [37]⟩,
   ⟨some 39, .ld (some 5) [] (.t 5), (some (38, false)), true, false, []⟩,
   ⟨some 40, .fa 1 (.t 5), (some (38, false)), true, false, []⟩,
   ⟨some 41, .ld (some 2) [] (.o 40), (some (38, false)), true, false, [40]⟩,
   ⟨some 42, .call (.c (.fn 133 [] [])) [.o 39, .o 41], (some (38, false)), true, false, [39, 41]⟩,
   ⟨some 43, .not (.o 42), (some (38, false)), true, false, [42]⟩,
   ⟨some 44, .pick (.t 38) (.c (.bool true)) (.t 43), none, false, false, [38, 43]⟩])
  (.cond (.t 44)
   (.seq (.ops 8 false [⟨some 2, .mv (.c (.bool false)), none, false, false, []⟩])
   (.ret))
   (.skip)))
  (.seq (.seq (.ops 9 false [⟨some 45, .mv (.t 0), none, false, false, []⟩,
   ⟨some 46, .mv (.t 4), none, false, false, []⟩,
   ⟨some 47, .slc 5 (.t 45) none (some (.t 46)), none, false, false, [45, 46]⟩,
   ⟨some 48, .mkfn 135 [] [.t 5], none, false, false, []⟩,
   ⟨some 49, .call (.c (.fn 134 [] [])) [.t 47, .t 48], none, false, false, [47, 48]⟩])
  (.cond (.t 49)
   (.seq (.ops 10 false [⟨some 2, .mv (.c (.bool false)), none, false, false, []⟩])
   (.ret))
   (.skip)))
  (.seq (.ops 11 false [⟨some 50, .fa 0 (.t 5), none, false, false, [5]⟩,
   ⟨some 51, .ld none [] (.t 50), none, false, false, [50]⟩,
   ⟨some 3, .mv (.t 51), none, false, false, [51]⟩])
  (.seq (.ops 12 false [⟨some 52, .mv (.t 4), none, false, false, [4]⟩,
   ⟨some 53, .bin .add (.t 52) (.c (.int .i64 1)), none, false, false, [52]⟩,
   ⟨some 4, .mv (.t 53), none, false, false, [53]⟩])
  (.goto 0))))))))
def rs_plan_Right : List IRes := [.t 2]
theorem ok_plan_Right : fnOk Tryz.prog 92 ic_plan_Right rs_plan_Right 54 = true := by kernel_rfl

/-- tallyman/plan.Right$1 -/
def ic_plan_Right_1 : ICode :=
 .seq (.ops 0 false [⟨some 2, .box (.t 0), none, false, false, [0]⟩,
  ⟨some 3, .mv (.c (.bool false)), none, false, false, [3]⟩])
 (.seq (.ops 1 false [⟨some 4, .ld (some 5) [] (.t 1), none, false, false, [1]⟩,
  ⟨some 5, .ld (some 5) [] (.t 2), none, false, false, [2]⟩,
  ⟨some 6, .call (.c (.fn 136 [] [])) [.t 4, .t 5], none, false, false, [4, 5]⟩,
  ⟨some 3, .mv (.t 6), none, false, false, [6]⟩])
 (.ret))
def rs_plan_Right_1 : List IRes := [.t 3]
theorem ok_plan_Right_1 : fnOk Tryz.prog 135 ic_plan_Right_1 rs_plan_Right_1 7 = true := by kernel_rfl

/-- tallyman/plan.inside -/
def ic_plan_inside : ICode :=
 .seq (.ops 0 false [⟨some 2, .box (.t 0), none, false, false, [0]⟩,
  ⟨some 3, .box (.t 1), none, false, false, [1]⟩,
  ⟨some 4, .mv (.c (.bool false)), none, false, false, [4]⟩])
 (.seq (.ops 1 false [⟨some 5, .ld (some 2) [] (.t 3), none, false, false, []⟩,
  ⟨some 6, .fa 0 (.t 3), none, false, false, []⟩,
  ⟨some 7, .ld none [] (.t 6), none, false, false, [6]⟩,
  ⟨some 8, .fa 1 (.t 2), none, false, false, []⟩,
  ⟨some 9, .fa 0 (.t 8), none, false, false, [8]⟩,
  ⟨some 10, .ld none [] (.t 9), none, false, false, [9]⟩,
  ⟨some 11, .mx [.t 7, .t 10], none, false, false, [7, 10]⟩,
  ⟨some 12, .fa 3 (.t 2), none, false, false, []⟩,
  ⟨some 13, .fa 0 (.t 12), none, false, false, [12]⟩,
  ⟨some 14, .ld none [] (.t 13), none, false, false, [13]⟩,
  ⟨some 15, .mn [.t 11, .t 14], none, false, false, [11, 14]⟩,
  ⟨some 16, .fa 1 (.t 3), none, false, false, [3]⟩,
  ⟨some 17, .ld none [] (.t 16), none, false, false, [16]⟩,
  ⟨some 18, .fa 1 (.t 2), none, false, false, []⟩,
  ⟨some 19, .fa 1 (.t 18), none, false, false, [18]⟩,
  ⟨some 20, .ld none [] (.t 19), none, false, false, [19]⟩,
  ⟨some 21, .mx [.t 17, .t 20], none, false, false, [17, 20]⟩,
  ⟨some 22, .fa 3 (.t 2), none, false, false, []⟩,
  ⟨some 23, .fa 1 (.t 22), none, false, false, [22]⟩,
  ⟨some 24, .ld none [] (.t 23), none, false, false, [23]⟩,
  ⟨some 25, .mn [.t 21, .t 24], none, false, false, [21, 24]⟩,
  ⟨some 26, .build [.int .i64 0, .int .i64 0] [(0, 1, .t 15), (1, 1, .t 25)], none, false, false, [15, 25]⟩,
  ⟨some 27, .eqc false [false, false] (.t 5) (.t 26), none, false, false, [5, 26]⟩,
  ⟨some 28, .mv (.t 27), none, false, false, [27]⟩,
  ⟨some 29, .fa 1 (.t 2), (some (28, true)), true, false, []⟩,
  ⟨some 30, .fa 0 (.o 29), (some (28, true)), true, false, [29]⟩,
  ⟨some 31, .ld none [] (.o 30), (some (28, true)), true, false, [30]⟩,
  ⟨some 32, .fa 3 (.t 2), (some (28, true)), true, false, []⟩,
  ⟨some 33, .fa 0 (.o 32), (some (28, true)), true, false, [32]⟩,
  ⟨some 34, .ld none [] (.o 33), (some (28, true)), true, false, [33]⟩,
  ⟨some 35, .bin .leq (.o 31) (.o 34), (some (28, true)), true, false, [31, 34]⟩,
  ⟨some 36, .pick (.t 28) (.t 35) (.c (.bool false)), none, false, false, [28, 35]⟩,
  ⟨some 37, .mv (.t 36), none, false, false, [36]⟩,
  ⟨some 38, .fa 1 (.t 2), (some (37, true)), true, false, []⟩,
  ⟨some 39, .fa 1 (.o 38), (some (37, true)), true, false, [38]⟩,
  ⟨some 40, .ld none [] (.o 39), (some (37, true)), true, false, [39]⟩,
  ⟨some 41, .fa 3 (.t 2), (some (37, true)), true, false, [2]⟩,
  ⟨some 42, .fa 1 (.o 41), (some (37, true)), true, false, [41]⟩,
  ⟨some 43, .ld none [] (.o 42), (some (37, true)), true, false, [42]⟩,
  ⟨some 44, .bin .leq (.o 40) (.o 43), (some (37, true)), true, false, [40, 43]⟩,
  ⟨some 45, .pick (.t 37) (.t 44) (.c (.bool false)), none, false, false, [37, 44]⟩,
  ⟨some 4, .mv (.t 45), none, false, false, [45]⟩])
 (.ret))
def rs_plan_inside : List IRes := [.t 4]
theorem ok_plan_inside : fnOk Tryz.prog 133 ic_plan_inside rs_plan_inside 46 = true := by kernel_rfl

/-- tallyman/plan.near -/
def ic_plan_near : ICode :=
 .seq (.ops 0 false [⟨some 1, .box (.t 0), none, false, false, [0]⟩,
  ⟨some 2, .alloc [.int .i64 0, .int .i64 0], none, false, false, []⟩])
 (.seq (.ops 1 false [⟨some 3, .fa 0 (.t 1), none, false, false, []⟩,
  ⟨some 4, .ld none [] (.t 3), none, false, false, [3]⟩,
  ⟨some 5, .mn [.t 4, .c (.int .i64 1000)], none, false, false, [4]⟩,
  ⟨some 6, .mx [.t 5, .c (.int .i64 (-1000))], none, false, false, [5]⟩,
  ⟨some 7, .fa 1 (.t 1), none, false, false, [1]⟩,
  ⟨some 8, .ld none [] (.t 7), none, false, false, [7]⟩,
  ⟨some 9, .mn [.t 8, .c (.int .i64 1000)], none, false, false, [8]⟩,
  ⟨some 10, .mx [.t 9, .c (.int .i64 (-1000))], none, false, false, [9]⟩,
  ⟨some 11, .build [.int .i64 0, .int .i64 0] [(0, 1, .t 6), (1, 1, .t 10)], none, false, false, [6, 10]⟩,
  ⟨none, .st 2 (.t 2) (.t 11), none, false, false, [11]⟩])
 (.ret))
def rs_plan_near : List IRes := [.cell 2 (some 2)]
theorem ok_plan_near : fnOk Tryz.prog 147 ic_plan_near rs_plan_near 12 = true := by kernel_rfl

/-- tallyman/plan.wide -/
def ic_plan_wide : ICode :=
 .seq (.ops 0 false [⟨some 1, .box (.t 0), none, false, false, [0]⟩,
  ⟨some 2, .mv (.c (.bool false)), none, false, false, [2]⟩])
 (.seq (.ops 1 true [⟨some 3, .ld (some 2) [] (.t 1), none, false, false, []⟩,
  ⟨some 4, .call (.c (.fn 147 [] [])) [.t 3], none, false, false, [3]⟩,
  ⟨some 5, .ld (some 2) [] (.t 1), none, false, false, [1]⟩,
  ⟨some 6, .eqc false [false, false] (.t 4) (.t 5), none, false, false, [4, 5]⟩,
  ⟨some 2, .mv (.t 6), none, false, false, [6]⟩])
 (.ret))
def rs_plan_wide : List IRes := [.t 2]
theorem ok_plan_wide : fnOk Tryz.prog 132 ic_plan_wide rs_plan_wide 7 = true := by kernel_rfl

/-- tallyman/state.Shape -/
def ic_state_Shape : ICode :=
 .seq (.ops 0 false [⟨some 2, .box (.t 0), none, false, false, [0]⟩,
  ⟨some 3, .box (.t 1), none, false, false, [1]⟩,
  ⟨some 4, .mv (.c (.int .i64 0)), none, false, false, [4]⟩])
 (.seq (.ops 1 false [⟨some 6, .ld (some 8) [] (.t 2), none, false, false, []⟩,
  ⟨some 7, .call (.c (.fn 54 [] [])) [.t 6], none, false, false, [6]⟩,
  ⟨some 5, .mv (.t 7), none, false, false, [7]⟩])
 (.seq (.block 0 (.seq (.ops 2 false [⟨some 9, .mv (.t 5), none, false, false, []⟩,
   ⟨some 10, .bin .neq (.t 9) (.c (.int .i64 0)), none, false, false, [9]⟩,
   ⟨some 8, .mv (.t 10), none, false, false, [10]⟩])
  (.cond (.t 8)
   (.seq (.ops 3 false [⟨some 11, .mv (.t 5), none, false, false, [5]⟩,
    ⟨some 4, .mv (.t 11), none, false, false, [11]⟩])
   (.ret))
   (.seq (.ops 4 false [⟨some 13, .ld (some 8) [] (.t 2), none, false, false, []⟩,
    ⟨some 14, .ld (some 8) [] (.t 3), none, false, false, []⟩,
    ⟨some 15, .call (.c (.fn 55 [] [])) [.t 13, .t 14], none, false, false, [13, 14]⟩,
    ⟨some 16, .not (.t 15), none, false, false, [15]⟩,
    ⟨some 12, .mv (.t 16), none, false, false, [16]⟩])
   (.cond (.t 12)
    (.seq (.ops 5 false [⟨some 4, .mv (.c (.int .i64 15)), none, false, false, []⟩])
    (.ret))
    (.seq (.ops 6 false [⟨some 18, .ld (some 8) [] (.t 2), none, false, false, []⟩,
     ⟨some 19, .ld (some 8) [] (.t 3), none, false, false, []⟩,
     ⟨some 20, .call (.c (.fn 56 [] [])) [.t 18, .t 19], none, false, false, [18, 19]⟩,
     ⟨some 21, .not (.t 20), none, false, false, [20]⟩,
     ⟨some 17, .mv (.t 21), none, false, false, [21]⟩])
    (.cond (.t 17)
     (.seq (.ops 7 false [⟨some 4, .mv (.c (.int .i64 3)), none, false, false, []⟩])
     (.ret))
     (.seq (.ops 8 false [⟨some 23, .ld (some 8) [] (.t 2), none, false, false, [2]⟩,
      ⟨some 24, .ld (some 8) [] (.t 3), none, false, false, [3]⟩,
      ⟨some 25, .call (.c (.fn 57 [] [])) [.t 23, .t 24], none, false, false, [23, 24]⟩,
      ⟨some 26, .not (.t 25), none, false, false, [25]⟩,
      ⟨some 22, .mv (.t 26), none, false, false, [26]⟩])
     (.cond (.t 22)
      (.seq (.ops 9 false [⟨some 4, .mv (.c (.int .i64 2)), none, false, false, []⟩])
      (.ret))
      (.skip))))))))))
 (.seq (.ops 10 false [⟨some 4, .mv (.c (.int .i64 0)), none, false, false, []⟩])
 (.ret))))
def rs_state_Shape : List IRes := [.t 4]
theorem ok_state_Shape : fnOk Tryz.prog 16 ic_state_Shape rs_state_Shape 27 = true := by kernel_rfl

/-- tallyman/state.every(int) -/
def ic_state_every_int : ICode :=
 .seq (.ops 0 false [⟨some 4, .mv (.c (.bool false)), none, false, false, [4]⟩])
 (.back [0, 1, 5] (.seq (.ops 1 false [⟨some 5, .mv (.c (.int .i64 0)), none, false, false, []⟩])
 (.label 0)) 0
  (.seq (.seq (.ops 2 false [⟨some 6, .mv (.t 5), none, false, false, []⟩,
   ⟨some 7, .mv (.t 0), none, false, false, []⟩,
   ⟨some 8, .len (.t 7), none, false, false, [7]⟩,
   ⟨some 9, .bin .eql (.t 6) (.t 8), none, false, false, [6, 8]⟩])
  (.cond (.t 9)
   (.seq (.ops 3 false [⟨some 4, .mv (.c (.bool true)), none, false, false, []⟩])
   (.ret))
   (.skip)))
  (.seq (.seq (.ops 4 false [⟨some 10, .mv (.t 1), none, false, false, []⟩,
   ⟨some 11, .mv (.t 0), none, false, false, []⟩,
   ⟨some 12, .mv (.t 5), none, false, false, []⟩,
   ⟨some 13, .ia 1 [.int .i64 0] (.t 11) (.t 12), none, false, false, [11, 12]⟩,
   ⟨some 14, .ld none [.int .i64 0] (.t 13), none, false, false, [13]⟩,
   ⟨some 15, .call (.t 10) [.t 14], none, false, false, [10, 14]⟩,
   ⟨some 16, .not (.t 15), none, false, false, [15]⟩])
  (.cond (.t 16)
   (.seq (.ops 5 false [⟨some 4, .mv (.c (.bool false)), none, false, false, []⟩])
   (.ret))
   (.skip)))
  (.seq (.ops 6 false [⟨some 17, .mv (.t 5), none, false, false, [5]⟩,
   ⟨some 18, .bin .add (.t 17) (.c (.int .i64 1)), none, false, false, [17]⟩,
   ⟨some 5, .mv (.t 18), none, false, false, [18]⟩])
  (.goto 0)))))
def rs_state_every_int : List IRes := [.t 4]
theorem ok_state_every_int : fnOk Tryz.prog 119 ic_state_every_int rs_state_every_int 19 = true := by kernel_rfl

/-- tallyman/state.every(tallyman/api.Lease) -/
def ic_state_every_api_Lease : ICode :=
 .seq (.ops 0 false [⟨some 4, .mv (.c (.bool false)), none, false, false, [4]⟩])
 (.back [0, 1, 5] (.seq (.ops 1 false [⟨some 5, .mv (.c (.int .i64 0)), none, false, false, []⟩])
 (.label 0)) 0
  (.seq (.seq (.ops 2 false [⟨some 6, .mv (.t 5), none, false, false, []⟩,
   ⟨some 7, .mv (.t 0), none, false, false, []⟩,
   ⟨some 8, .len (.t 7), none, false, false, [7]⟩,
   ⟨some 9, .bin .eql (.t 6) (.t 8), none, false, false, [6, 8]⟩])
  (.cond (.t 9)
   (.seq (.ops 3 false [⟨some 4, .mv (.c (.bool true)), none, false, false, []⟩])
   (.ret))
   (.skip)))
  (.seq (.seq (.ops 4 false [⟨some 10, .mv (.t 1), none, false, false, []⟩,
   ⟨some 11, .mv (.t 0), none, false, false, []⟩,
   ⟨some 12, .mv (.t 5), none, false, false, []⟩,
   ⟨some 13, .ia 7 [.int .i64 0, .int .i64 0, .int .i64 0, .int .i64 0, .int .i64 0, .int .i64 0, .view []] (.t 11) (.t 12), none, false, false, [11, 12]⟩,
   ⟨some 14, .ld (some 7) [.int .i64 0, .int .i64 0, .int .i64 0, .int .i64 0, .int .i64 0, .int .i64 0, .view []] (.t 13), none, false, false, [13]⟩,
   ⟨some 15, .call (.t 10) [.t 14], none, false, false, [10, 14]⟩,
   ⟨some 16, .not (.t 15), none, false, false, [15]⟩])
  (.cond (.t 16)
   (.seq (.ops 5 false [⟨some 4, .mv (.c (.bool false)), none, false, false, []⟩])
   (.ret))
   (.skip)))
  (.seq (.ops 6 false [⟨some 17, .mv (.t 5), none, false, false, [5]⟩,
   ⟨some 18, .bin .add (.t 17) (.c (.int .i64 1)), none, false, false, [17]⟩,
   ⟨some 5, .mv (.t 18), none, false, false, [18]⟩])
  (.goto 0)))))
def rs_state_every_api_Lease : List IRes := [.t 4]
theorem ok_state_every_api_Lease : fnOk Tryz.prog 95 ic_state_every_api_Lease rs_state_every_api_Lease 19 = true := by kernel_rfl

/-- tallyman/state.every(tallyman/api.Lock) -/
def ic_state_every_api_Lock : ICode :=
 .seq (.ops 0 false [⟨some 4, .mv (.c (.bool false)), none, false, false, [4]⟩])
 (.back [0, 1, 5] (.seq (.ops 1 false [⟨some 5, .mv (.c (.int .i64 0)), none, false, false, []⟩])
 (.label 0)) 0
  (.seq (.seq (.ops 2 false [⟨some 6, .mv (.t 5), none, false, false, []⟩,
   ⟨some 7, .mv (.t 0), none, false, false, []⟩,
   ⟨some 8, .len (.t 7), none, false, false, [7]⟩,
   ⟨some 9, .bin .eql (.t 6) (.t 8), none, false, false, [6, 8]⟩])
  (.cond (.t 9)
   (.seq (.ops 3 false [⟨some 4, .mv (.c (.bool true)), none, false, false, []⟩])
   (.ret))
   (.skip)))
  (.seq (.seq (.ops 4 false [⟨some 10, .mv (.t 1), none, false, false, []⟩,
   ⟨some 11, .mv (.t 0), none, false, false, []⟩,
   ⟨some 12, .mv (.t 5), none, false, false, []⟩,
   ⟨some 13, .ia 3 [.int .i64 0, .int .i64 0, .view []] (.t 11) (.t 12), none, false, false, [11, 12]⟩,
   ⟨some 14, .ld (some 3) [.int .i64 0, .int .i64 0, .view []] (.t 13), none, false, false, [13]⟩,
   ⟨some 15, .call (.t 10) [.t 14], none, false, false, [10, 14]⟩,
   ⟨some 16, .not (.t 15), none, false, false, [15]⟩])
  (.cond (.t 16)
   (.seq (.ops 5 false [⟨some 4, .mv (.c (.bool false)), none, false, false, []⟩])
   (.ret))
   (.skip)))
  (.seq (.ops 6 false [⟨some 17, .mv (.t 5), none, false, false, [5]⟩,
   ⟨some 18, .bin .add (.t 17) (.c (.int .i64 1)), none, false, false, [17]⟩,
   ⟨some 5, .mv (.t 18), none, false, false, [18]⟩])
  (.goto 0)))))
def rs_state_every_api_Lock : List IRes := [.t 4]
theorem ok_state_every_api_Lock : fnOk Tryz.prog 97 ic_state_every_api_Lock rs_state_every_api_Lock 19 = true := by kernel_rfl

/-- tallyman/state.every(tallyman/api.Task) -/
def ic_state_every_api_Task : ICode :=
 .seq (.ops 0 false [⟨some 4, .mv (.c (.bool false)), none, false, false, [4]⟩])
 (.back [0, 1, 5] (.seq (.ops 1 false [⟨some 5, .mv (.c (.int .i64 0)), none, false, false, []⟩])
 (.label 0)) 0
  (.seq (.seq (.ops 2 false [⟨some 6, .mv (.t 5), none, false, false, []⟩,
   ⟨some 7, .mv (.t 0), none, false, false, []⟩,
   ⟨some 8, .len (.t 7), none, false, false, [7]⟩,
   ⟨some 9, .bin .eql (.t 6) (.t 8), none, false, false, [6, 8]⟩])
  (.cond (.t 9)
   (.seq (.ops 3 false [⟨some 4, .mv (.c (.bool true)), none, false, false, []⟩])
   (.ret))
   (.skip)))
  (.seq (.seq (.ops 4 false [⟨some 10, .mv (.t 1), none, false, false, []⟩,
   ⟨some 11, .mv (.t 0), none, false, false, []⟩,
   ⟨some 12, .mv (.t 5), none, false, false, []⟩,
   ⟨some 13, .ia 14 [.int .i64 0, .int .i64 0, .int .u64 0, .int .u64 0, .int .i64 0, .int .i64 0, .int .i64 0, .int .i64 0, .view [], .int .i64 0, .int .i64 0, .int .i64 0, .int .i64 0, .view []] (.t 11) (.t 12), none, false, false, [11, 12]⟩,
   ⟨some 14, .ld (some 14) [.int .i64 0, .int .i64 0, .int .u64 0, .int .u64 0, .int .i64 0, .int .i64 0, .int .i64 0, .int .i64 0, .view [], .int .i64 0, .int .i64 0, .int .i64 0, .int .i64 0, .view []] (.t 13), none, false, false, [13]⟩,
   ⟨some 15, .call (.t 10) [.t 14], none, false, false, [10, 14]⟩,
   ⟨some 16, .not (.t 15), none, false, false, [15]⟩])
  (.cond (.t 16)
   (.seq (.ops 5 false [⟨some 4, .mv (.c (.bool false)), none, false, false, []⟩])
   (.ret))
   (.skip)))
  (.seq (.ops 6 false [⟨some 17, .mv (.t 5), none, false, false, [5]⟩,
   ⟨some 18, .bin .add (.t 17) (.c (.int .i64 1)), none, false, false, [17]⟩,
   ⟨some 5, .mv (.t 18), none, false, false, [18]⟩])
  (.goto 0)))))
def rs_state_every_api_Task : List IRes := [.t 4]
theorem ok_state_every_api_Task : fnOk Tryz.prog 93 ic_state_every_api_Task rs_state_every_api_Task 19 = true := by kernel_rfl

/-- tallyman/state.fits -/
def ic_state_fits : ICode :=
 .seq (.ops 0 false [⟨some 2, .box (.t 0), none, false, false, [0]⟩,
  ⟨some 3, .box (.t 1), none, false, false, [1]⟩,
  ⟨some 4, .mv (.c (.bool false)), none, false, false, [4]⟩])
 (.seq (.ops 1 false [⟨some 5, .fa 3 (.t 3), none, false, false, []⟩,
  ⟨some 6, .ld none [] (.t 5), none, false, false, [5]⟩,
  ⟨some 7, .len (.t 6), none, false, false, [6]⟩,
  ⟨some 8, .fa 0 (.t 2), none, false, false, []⟩,
  ⟨some 9, .ld none [] (.t 8), none, false, false, [8]⟩,
  ⟨some 10, .bin .leq (.t 7) (.t 9), none, false, false, [7, 9]⟩,
  ⟨some 11, .mv (.t 10), none, false, false, [10]⟩,
  ⟨some 12, .fa 4 (.t 3), (some (11, true)), true, false, []⟩,
  ⟨some 13, .ld none [] (.o 12), (some (11, true)), true, false, [12]⟩,
  ⟨some 14, .len (.o 13), (some (11, true)), true, false, [13]⟩,
  ⟨some 15, .fa 1 (.t 2), (some (11, true)), true, false, []⟩,
  ⟨some 16, .ld none [] (.o 15), (some (11, true)), true, false, [15]⟩,
  ⟨some 17, .bin .leq (.o 14) (.o 16), (some (11, true)), true, false, [14, 16]⟩,
  ⟨some 18, .pick (.t 11) (.t 17) (.c (.bool false)), none, false, false, [11, 17]⟩,
  ⟨some 19, .mv (.t 18), none, false, false, [18]⟩,
  ⟨some 20, .fa 5 (.t 3), (some (19, true)), true, false, []⟩,
  ⟨some 21, .ld none [] (.o 20), (some (19, true)), true, false, [20]⟩,
  ⟨some 22, .len (.o 21), (some (19, true)), true, false, [21]⟩,
  ⟨some 23, .fa 2 (.t 2), (some (19, true)), true, false, []⟩,
  ⟨some 24, .ld none [] (.o 23), (some (19, true)), true, false, [23]⟩,
  ⟨some 25, .bin .leq (.o 22) (.o 24), (some (19, true)), true, false, [22, 24]⟩,
  ⟨some 26, .pick (.t 19) (.t 25) (.c (.bool false)), none, false, false, [19, 25]⟩,
  ⟨some 27, .mv (.t 26), none, false, false, [26]⟩,
  ⟨some 28, .fa 6 (.t 3), (some (27, true)), true, false, []⟩,
  ⟨some 29, .ld none [] (.o 28), (some (27, true)), true, false, [28]⟩,
  ⟨some 30, .len (.o 29), (some (27, true)), true, false, [29]⟩,
  ⟨some 31, .fa 1 (.t 2), (some (27, true)), true, false, []⟩,
  ⟨some 32, .ld none [] (.o 31), (some (27, true)), true, false, [31]⟩,
  ⟨some 33, .bin .leq (.o 30) (.o 32), (some (27, true)), true, false, [30, 32]⟩,
  ⟨some 34, .pick (.t 27) (.t 33) (.c (.bool false)), none, false, false, [27, 33]⟩,
  ⟨some 35, .mv (.t 34), none, false, false, [34]⟩,
  ⟨some 36, .fa 7 (.t 3), (some (35, true)), true, false, []⟩,
  ⟨some 37, .ld none [] (.o 36), (some (35, true)), true, false, [36]⟩,
  ⟨some 38, .len (.o 37), (some (35, true)), true, false, [37]⟩,
  ⟨some 39, .fa 7 (.t 2), (some (35, true)), true, false, []⟩,
  ⟨some 40, .ld none [] (.o 39), (some (35, true)), true, false, [39]⟩,
  ⟨some 41, .len (.o 40), (some (35, true)), true, false, [40]⟩,
  ⟨some 42, .bin .eql (.o 38) (.o 41), (some (35, true)), true, false, [38, 41]⟩,
  ⟨some 43, .pick (.t 35) (.t 42) (.c (.bool false)), none, false, false, [35, 42]⟩,
  ⟨some 44, .mv (.t 43), none, false, false, [43]⟩,
  ⟨some 45, .fa 3 (.t 3), (some (44, true)), true, false, []⟩,
  ⟨some 46, .ld none [] (.o 45), (some (44, true)), true, false, [45]⟩,
  ⟨some 47, .call (.c (.fn 93 [] [])) [.o 46, .c (.fn 94 [] [])], (some (44, true)), true, false, [46]⟩,
  ⟨some 48, .pick (.t 44) (.t 47) (.c (.bool false)), none, false, false, [44, 47]⟩,
  ⟨some 49, .mv (.t 48), none, false, false, [48]⟩,
  ⟨some 50, .fa 6 (.t 3), (some (49, true)), true, false, []⟩,
  ⟨some 51, .ld none [] (.o 50), (some (49, true)), true, false, [50]⟩,
  ⟨some 52, .mkfn 96 [] [.t 2], (some (49, true)), true, false, [2]⟩,
  ⟨some 53, .call (.c (.fn 95 [] [])) [.o 51, .o 52], (some (49, true)), true, false, [51, 52]⟩,
  ⟨some 54, .pick (.t 49) (.t 53) (.c (.bool false)), none, false, false, [49, 53]⟩,
  ⟨some 55, .mv (.t 54), none, false, false, [54]⟩,
  ⟨some 56, .fa 7 (.t 3), (some (55, true)), true, false, [3]⟩,
  ⟨some 57, .ld none [] (.o 56), (some (55, true)), true, false, [56]⟩,
  ⟨some 58, .call (.c (.fn 97 [] [])) [.o 57, .c (.fn 98 [] [])], (some (55, true)), true, false, [57]⟩,
  ⟨some 59, .pick (.t 55) (.t 58) (.c (.bool false)), none, false, false, [55, 58]⟩,
  ⟨some 4, .mv (.t 59), none, false, false, [59]⟩])
 (.ret))
def rs_state_fits : List IRes := [.t 4]
theorem ok_state_fits : fnOk Tryz.prog 55 ic_state_fits rs_state_fits 60 = true := by kernel_rfl

/-- tallyman/state.fits$1 -/
def ic_state_fits_1 : ICode :=
 .seq (.ops 0 false [⟨some 1, .box (.t 0), none, false, false, [0]⟩,
  ⟨some 2, .mv (.c (.bool false)), none, false, false, [2]⟩])
 (.seq (.ops 1 false [⟨some 3, .fa 13 (.t 1), none, false, false, [1]⟩,
  ⟨some 4, .ld none [] (.t 3), none, false, false, [3]⟩,
  ⟨some 5, .len (.t 4), none, false, false, [4]⟩,
  ⟨some 6, .bin .leq (.t 5) (.c (.int .i64 16)), none, false, false, [5]⟩,
  ⟨some 2, .mv (.t 6), none, false, false, [6]⟩])
 (.ret))
def rs_state_fits_1 : List IRes := [.t 2]
theorem ok_state_fits_1 : fnOk Tryz.prog 94 ic_state_fits_1 rs_state_fits_1 7 = true := by kernel_rfl

/-- tallyman/state.fits$2 -/
def ic_state_fits_2 : ICode :=
 .seq (.ops 0 false [⟨some 2, .box (.t 0), none, false, false, [0]⟩,
  ⟨some 3, .mv (.c (.bool false)), none, false, false, [3]⟩])
 (.seq (.ops 1 false [⟨some 4, .fa 6 (.t 2), none, false, false, [2]⟩,
  ⟨some 5, .ld none [] (.t 4), none, false, false, [4]⟩,
  ⟨some 6, .len (.t 5), none, false, false, [5]⟩,
  ⟨some 7, .fa 7 (.t 1), none, false, false, [1]⟩,
  ⟨some 8, .ld none [] (.t 7), none, false, false, [7]⟩,
  ⟨some 9, .len (.t 8), none, false, false, [8]⟩,
  ⟨some 10, .bin .leq (.t 6) (.t 9), none, false, false, [6, 9]⟩,
  ⟨some 3, .mv (.t 10), none, false, false, [10]⟩])
 (.ret))
def rs_state_fits_2 : List IRes := [.t 3]
theorem ok_state_fits_2 : fnOk Tryz.prog 96 ic_state_fits_2 rs_state_fits_2 11 = true := by kernel_rfl

/-- tallyman/state.fits$3 -/
def ic_state_fits_3 : ICode :=
 .seq (.ops 0 false [⟨some 1, .box (.t 0), none, false, false, [0]⟩,
  ⟨some 2, .mv (.c (.bool false)), none, false, false, [2]⟩])
 (.seq (.ops 1 false [⟨some 3, .fa 2 (.t 1), none, false, false, [1]⟩,
  ⟨some 4, .ld none [] (.t 3), none, false, false, [3]⟩,
  ⟨some 5, .len (.t 4), none, false, false, [4]⟩,
  ⟨some 6, .bin .leq (.t 5) (.c (.int .i64 64)), none, false, false, [5]⟩,
  ⟨some 2, .mv (.t 6), none, false, false, [6]⟩])
 (.ret))
def rs_state_fits_3 : List IRes := [.t 2]
theorem ok_state_fits_3 : fnOk Tryz.prog 98 ic_state_fits_3 rs_state_fits_3 7 = true := by kernel_rfl

/-- tallyman/state.from -/
def ic_state_from : ICode :=
 .seq (.ops 0 false [⟨some 2, .box (.t 0), none, false, false, [0]⟩,
  ⟨some 3, .box (.t 1), none, false, false, [1]⟩,
  ⟨some 4, .mv (.c (.val .nilFunc)), none, false, false, [4]⟩])
 (.seq (.ops 1 false [⟨some 5, .mkfn 137 [] [.t 2, .t 3], none, false, false, [2, 3]⟩,
  ⟨some 4, .mv (.t 5), none, false, false, [5]⟩])
 (.ret))
def rs_state_from : List IRes := [.t 4]
theorem ok_state_from : fnOk Tryz.prog 113 ic_state_from rs_state_from 6 = true := by kernel_rfl

/-- tallyman/state.from$1 -/
def ic_state_from_1 : ICode :=
 .seq (.ops 0 false [⟨some 4, .mv (.c (.bool false)), none, false, false, [4]⟩])
 (.seq (.ops 1 false [⟨some 5, .mv (.t 0), none, false, false, []⟩,
  ⟨some 6, .ld none [] (.t 1), none, false, false, [1]⟩,
  ⟨some 7, .bin .geq (.t 5) (.t 6), none, false, false, [5, 6]⟩,
  ⟨some 8, .mv (.t 7), none, false, false, [7]⟩,
  ⟨some 9, .mv (.t 0), (some (8, true)), true, false, [0]⟩,
  ⟨some 10, .ld none [] (.t 2), (some (8, true)), true, false, [2]⟩,
  ⟨some 11, .bin .leq (.o 9) (.o 10), (some (8, true)), true, false, [9, 10]⟩,
  ⟨some 12, .pick (.t 8) (.t 11) (.c (.bool false)), none, false, false, [8, 11]⟩,
  ⟨some 4, .mv (.t 12), none, false, false, [12]⟩])
 (.ret))
def rs_state_from_1 : List IRes := [.t 4]
theorem ok_state_from_1 : fnOk Tryz.prog 137 ic_state_from_1 rs_state_from_1 13 = true := by kernel_rfl

/-- tallyman/state.hand -/
def ic_state_hand : ICode :=
 .seq (.ops 0 false [⟨some 1, .box (.t 0), none, false, false, [0]⟩,
  ⟨some 2, .mv (.c (.int .i64 0)), none, false, false, [2]⟩])
 (.seq (.ops 1 false [⟨some 3, .fa 0 (.t 1), none, false, false, [1]⟩,
  ⟨some 4, .ld none [] (.t 3), none, false, false, [3]⟩,
  ⟨some 2, .mv (.t 4), none, false, false, [4]⟩])
 (.ret))
def rs_state_hand : List IRes := [.t 2]
theorem ok_state_hand : fnOk Tryz.prog 103 ic_state_hand rs_state_hand 5 = true := by kernel_rfl

/-- tallyman/state.numbers(tallyman/api.Aisle) -/
def ic_state_numbers_api_Aisle : ICode :=
 .seq (.ops 0 false [⟨some 4, .mv (.c (.nils)), none, false, false, [4]⟩])
 (.seq (.ops 1 false [⟨some 5, .mv (.c (.nils)), none, false, false, []⟩])
 (.seq (.seq (.ops 2 false [⟨some 8, .mv (.t 0), none, false, false, [0]⟩,
  ⟨some 9, .len (.t 8), none, false, false, []⟩,
  ⟨some 10, .mv (.c (.int .i64 0)), none, false, false, []⟩])
 (.block 0 (.loop [1, 5, 8, 9, 10] (.seq (.ops 3 false [⟨some 11, .bin .lss (.t 10) (.t 9), none, false, false, []⟩])
   (.seq (.cond (.t 11)
    (.skip)
    (.exit 0))
   (.seq (.block 1 (.seq (.ops 4 false [⟨some 12, .ia 5 [.int .i64 0, .int .i64 0, .int .i64 0, .int .i64 0, .int .i64 0] (.t 8) (.t 10), none, false, false, []⟩,
     ⟨some 13, .ld (some 5) [.int .i64 0, .int .i64 0, .int .i64 0, .int .i64 0, .int .i64 0] (.t 12), none, false, false, [12]⟩,
     ⟨some 7, .alloc [.int .i64 0, .int .i64 0, .int .i64 0, .int .i64 0, .int .i64 0], none, false, false, []⟩,
     ⟨none, .st 5 (.t 7) (.t 13), none, false, false, [13]⟩])
    (.ops 5 false [⟨some 14, .mv (.t 5), none, false, false, [5]⟩,
     ⟨some 15, .mv (.t 1), none, false, false, []⟩,
     ⟨some 16, .ld (some 5) [] (.t 7), none, false, false, [7]⟩,
     ⟨some 17, .call (.t 15) [.t 16], none, false, false, [15, 16]⟩,
     ⟨some 18, .rowView 1 [.t 17], none, false, false, [17]⟩,
     ⟨some 19, .app 1 (.t 14) (.t 18), none, false, false, [14, 18]⟩,
     ⟨some 5, .mv (.t 19), none, false, false, [19]⟩])))
   (.ops 6 false [⟨some 20, .bin .add (.t 10) (.c (.int .i64 1)), none, false, false, [10]⟩,
    ⟨some 10, .mv (.t 20), none, false, false, [20]⟩])))))))
 (.seq (.ops 7 false [⟨some 21, .mv (.t 5), none, false, false, [5]⟩,
  ⟨some 4, .mv (.t 21), none, false, false, [21]⟩])
 (.ret))))
def rs_state_numbers_api_Aisle : List IRes := [.t 4]
theorem ok_state_numbers_api_Aisle : fnOk Tryz.prog 111 ic_state_numbers_api_Aisle rs_state_numbers_api_Aisle 22 = true := by kernel_rfl

/-- tallyman/state.numbers(tallyman/api.Hand) -/
def ic_state_numbers_api_Hand : ICode :=
 .seq (.ops 0 false [⟨some 4, .mv (.c (.nils)), none, false, false, [4]⟩])
 (.seq (.ops 1 false [⟨some 5, .mv (.c (.nils)), none, false, false, []⟩])
 (.seq (.seq (.ops 2 false [⟨some 8, .mv (.t 0), none, false, false, [0]⟩,
  ⟨some 9, .len (.t 8), none, false, false, []⟩,
  ⟨some 10, .mv (.c (.int .i64 0)), none, false, false, []⟩])
 (.block 0 (.loop [1, 5, 8, 9, 10] (.seq (.ops 3 false [⟨some 11, .bin .lss (.t 10) (.t 9), none, false, false, []⟩])
   (.seq (.cond (.t 11)
    (.skip)
    (.exit 0))
   (.seq (.block 1 (.seq (.ops 4 false [⟨some 12, .ia 3 [.int .i64 0, .int .u64 0, .bool false] (.t 8) (.t 10), none, false, false, []⟩,
     ⟨some 13, .ld (some 3) [.int .i64 0, .int .u64 0, .bool false] (.t 12), none, false, false, [12]⟩,
     ⟨some 7, .alloc [.int .i64 0, .int .u64 0, .bool false], none, false, false, []⟩,
     ⟨none, .st 3 (.t 7) (.t 13), none, false, false, [13]⟩])
    (.ops 5 false [⟨some 14, .mv (.t 5), none, false, false, [5]⟩,
     ⟨some 15, .mv (.t 1), none, false, false, []⟩,
     ⟨some 16, .ld (some 3) [] (.t 7), none, false, false, [7]⟩,
     ⟨some 17, .call (.t 15) [.t 16], none, false, false, [15, 16]⟩,
     ⟨some 18, .rowView 1 [.t 17], none, false, false, [17]⟩,
     ⟨some 19, .app 1 (.t 14) (.t 18), none, false, false, [14, 18]⟩,
     ⟨some 5, .mv (.t 19), none, false, false, [19]⟩])))
   (.ops 6 false [⟨some 20, .bin .add (.t 10) (.c (.int .i64 1)), none, false, false, [10]⟩,
    ⟨some 10, .mv (.t 20), none, false, false, [20]⟩])))))))
 (.seq (.ops 7 false [⟨some 21, .mv (.t 5), none, false, false, [5]⟩,
  ⟨some 4, .mv (.t 21), none, false, false, [21]⟩])
 (.ret))))
def rs_state_numbers_api_Hand : List IRes := [.t 4]
theorem ok_state_numbers_api_Hand : fnOk Tryz.prog 102 ic_state_numbers_api_Hand rs_state_numbers_api_Hand 22 = true := by kernel_rfl

/-- tallyman/state.numbers(tallyman/api.Lease) -/
def ic_state_numbers_api_Lease : ICode :=
 .seq (.ops 0 false [⟨some 4, .mv (.c (.nils)), none, false, false, [4]⟩])
 (.seq (.ops 1 false [⟨some 5, .mv (.c (.nils)), none, false, false, []⟩])
 (.seq (.seq (.ops 2 false [⟨some 8, .mv (.t 0), none, false, false, [0]⟩,
  ⟨some 9, .len (.t 8), none, false, false, []⟩,
  ⟨some 10, .mv (.c (.int .i64 0)), none, false, false, []⟩])
 (.block 0 (.loop [1, 5, 8, 9, 10] (.seq (.ops 3 false [⟨some 11, .bin .lss (.t 10) (.t 9), none, false, false, []⟩])
   (.seq (.cond (.t 11)
    (.skip)
    (.exit 0))
   (.seq (.block 1 (.seq (.ops 4 false [⟨some 12, .ia 7 [.int .i64 0, .int .i64 0, .int .i64 0, .int .i64 0, .int .i64 0, .int .i64 0, .view []] (.t 8) (.t 10), none, false, false, []⟩,
     ⟨some 13, .ld (some 7) [.int .i64 0, .int .i64 0, .int .i64 0, .int .i64 0, .int .i64 0, .int .i64 0, .view []] (.t 12), none, false, false, [12]⟩,
     ⟨some 7, .alloc [.int .i64 0, .int .i64 0, .int .i64 0, .int .i64 0, .int .i64 0, .int .i64 0, .nils], none, false, false, []⟩,
     ⟨none, .st 7 (.t 7) (.t 13), none, false, false, [13]⟩])
    (.ops 5 false [⟨some 14, .mv (.t 5), none, false, false, [5]⟩,
     ⟨some 15, .mv (.t 1), none, false, false, []⟩,
     ⟨some 16, .ld (some 7) [] (.t 7), none, false, false, [7]⟩,
     ⟨some 17, .call (.t 15) [.t 16], none, false, false, [15, 16]⟩,
     ⟨some 18, .rowView 1 [.t 17], none, false, false, [17]⟩,
     ⟨some 19, .app 1 (.t 14) (.t 18), none, false, false, [14, 18]⟩,
     ⟨some 5, .mv (.t 19), none, false, false, [19]⟩])))
   (.ops 6 false [⟨some 20, .bin .add (.t 10) (.c (.int .i64 1)), none, false, false, [10]⟩,
    ⟨some 10, .mv (.t 20), none, false, false, [20]⟩])))))))
 (.seq (.ops 7 false [⟨some 21, .mv (.t 5), none, false, false, [5]⟩,
  ⟨some 4, .mv (.t 21), none, false, false, [21]⟩])
 (.ret))))
def rs_state_numbers_api_Lease : List IRes := [.t 4]
theorem ok_state_numbers_api_Lease : fnOk Tryz.prog 104 ic_state_numbers_api_Lease rs_state_numbers_api_Lease 22 = true := by kernel_rfl

/-- tallyman/state.numbers(tallyman/api.Lock) -/
def ic_state_numbers_api_Lock : ICode :=
 .seq (.ops 0 false [⟨some 4, .mv (.c (.nils)), none, false, false, [4]⟩])
 (.seq (.ops 1 false [⟨some 5, .mv (.c (.nils)), none, false, false, []⟩])
 (.seq (.seq (.ops 2 false [⟨some 8, .mv (.t 0), none, false, false, [0]⟩,
  ⟨some 9, .len (.t 8), none, false, false, []⟩,
  ⟨some 10, .mv (.c (.int .i64 0)), none, false, false, []⟩])
 (.block 0 (.loop [1, 5, 8, 9, 10] (.seq (.ops 3 false [⟨some 11, .bin .lss (.t 10) (.t 9), none, false, false, []⟩])
   (.seq (.cond (.t 11)
    (.skip)
    (.exit 0))
   (.seq (.block 1 (.seq (.ops 4 false [⟨some 12, .ia 3 [.int .i64 0, .int .i64 0, .view []] (.t 8) (.t 10), none, false, false, []⟩,
     ⟨some 13, .ld (some 3) [.int .i64 0, .int .i64 0, .view []] (.t 12), none, false, false, [12]⟩,
     ⟨some 7, .alloc [.int .i64 0, .int .i64 0, .nils], none, false, false, []⟩,
     ⟨none, .st 3 (.t 7) (.t 13), none, false, false, [13]⟩])
    (.ops 5 false [⟨some 14, .mv (.t 5), none, false, false, [5]⟩,
     ⟨some 15, .mv (.t 1), none, false, false, []⟩,
     ⟨some 16, .ld (some 3) [] (.t 7), none, false, false, [7]⟩,
     ⟨some 17, .call (.t 15) [.t 16], none, false, false, [15, 16]⟩,
     ⟨some 18, .rowView 1 [.t 17], none, false, false, [17]⟩,
     ⟨some 19, .app 1 (.t 14) (.t 18), none, false, false, [14, 18]⟩,
     ⟨some 5, .mv (.t 19), none, false, false, [19]⟩])))
   (.ops 6 false [⟨some 20, .bin .add (.t 10) (.c (.int .i64 1)), none, false, false, [10]⟩,
    ⟨some 10, .mv (.t 20), none, false, false, [20]⟩])))))))
 (.seq (.ops 7 false [⟨some 21, .mv (.t 5), none, false, false, [5]⟩,
  ⟨some 4, .mv (.t 21), none, false, false, [21]⟩])
 (.ret))))
def rs_state_numbers_api_Lock : List IRes := [.t 4]
theorem ok_state_numbers_api_Lock : fnOk Tryz.prog 109 ic_state_numbers_api_Lock rs_state_numbers_api_Lock 22 = true := by kernel_rfl

/-- tallyman/state.numbers(tallyman/api.Task) -/
def ic_state_numbers_api_Task : ICode :=
 .seq (.ops 0 false [⟨some 4, .mv (.c (.nils)), none, false, false, [4]⟩])
 (.seq (.ops 1 false [⟨some 5, .mv (.c (.nils)), none, false, false, []⟩])
 (.seq (.seq (.ops 2 false [⟨some 8, .mv (.t 0), none, false, false, [0]⟩,
  ⟨some 9, .len (.t 8), none, false, false, []⟩,
  ⟨some 10, .mv (.c (.int .i64 0)), none, false, false, []⟩])
 (.block 0 (.loop [1, 5, 8, 9, 10] (.seq (.ops 3 false [⟨some 11, .bin .lss (.t 10) (.t 9), none, false, false, []⟩])
   (.seq (.cond (.t 11)
    (.skip)
    (.exit 0))
   (.seq (.block 1 (.seq (.ops 4 false [⟨some 12, .ia 14 [.int .i64 0, .int .i64 0, .int .u64 0, .int .u64 0, .int .i64 0, .int .i64 0, .int .i64 0, .int .i64 0, .view [], .int .i64 0, .int .i64 0, .int .i64 0, .int .i64 0, .view []] (.t 8) (.t 10), none, false, false, []⟩,
     ⟨some 13, .ld (some 14) [.int .i64 0, .int .i64 0, .int .u64 0, .int .u64 0, .int .i64 0, .int .i64 0, .int .i64 0, .int .i64 0, .view [], .int .i64 0, .int .i64 0, .int .i64 0, .int .i64 0, .view []] (.t 12), none, false, false, [12]⟩,
     ⟨some 7, .alloc [.int .i64 0, .int .i64 0, .int .u64 0, .int .u64 0, .int .i64 0, .int .i64 0, .int .i64 0, .int .i64 0, .nils, .int .i64 0, .int .i64 0, .int .i64 0, .int .i64 0, .nils], none, false, false, []⟩,
     ⟨none, .st 14 (.t 7) (.t 13), none, false, false, [13]⟩])
    (.ops 5 false [⟨some 14, .mv (.t 5), none, false, false, [5]⟩,
     ⟨some 15, .mv (.t 1), none, false, false, []⟩,
     ⟨some 16, .ld (some 14) [] (.t 7), none, false, false, [7]⟩,
     ⟨some 17, .call (.t 15) [.t 16], none, false, false, [15, 16]⟩,
     ⟨some 18, .rowView 1 [.t 17], none, false, false, [17]⟩,
     ⟨some 19, .app 1 (.t 14) (.t 18), none, false, false, [14, 18]⟩,
     ⟨some 5, .mv (.t 19), none, false, false, [19]⟩])))
   (.ops 6 false [⟨some 20, .bin .add (.t 10) (.c (.int .i64 1)), none, false, false, [10]⟩,
    ⟨some 10, .mv (.t 20), none, false, false, [20]⟩])))))))
 (.seq (.ops 7 false [⟨some 21, .mv (.t 5), none, false, false, [5]⟩,
  ⟨some 4, .mv (.t 21), none, false, false, [21]⟩])
 (.ret))))
def rs_state_numbers_api_Task : List IRes := [.t 4]
theorem ok_state_numbers_api_Task : fnOk Tryz.prog 100 ic_state_numbers_api_Task rs_state_numbers_api_Task 22 = true := by kernel_rfl

/-- tallyman/state.orders -/
def ic_state_orders : ICode :=
 .seq (.ops 0 false [⟨some 2, .box (.t 0), none, false, false, [0]⟩,
  ⟨some 3, .box (.t 1), none, false, false, [1]⟩,
  ⟨some 4, .mv (.c (.bool false)), none, false, false, [4]⟩])
 (.seq (.ops 1 true [⟨some 5, .fa 3 (.t 3), none, false, false, []⟩,
  ⟨some 6, .ld none [] (.t 5), none, false, false, [5]⟩,
  ⟨some 7, .call (.c (.fn 100 [] [])) [.t 6, .c (.fn 101 [] [])], none, false, false, [6]⟩,
  ⟨some 8, .call (.c (.fn 99 [] [])) [.t 7], none, false, false, [7]⟩,
  ⟨some 9, .mv (.t 8), none, false, false, [8]⟩,
  ⟨some 10, .fa 4 (.t 3), (some (9, true)), true, false, []⟩,
  ⟨some 11, .ld none [] (.o 10), (some (9, true)), true, false, [10]⟩,
  ⟨some 12, .call (.c (.fn 102 [] [])) [.o 11, .c (.fn 103 [] [])], (some (9, true)), true, false, [11]⟩,
  ⟨some 13, .call (.c (.fn 99 [] [])) [.o 12], (some (9, true)), true, false, [12]⟩,
  ⟨some 14, .pick (.t 9) (.t 13) (.c (.bool false)), none, false, false, [9, 13]⟩,
  ⟨some 15, .mv (.t 14), none, false, false, [14]⟩,
  ⟨some 16, .fa 5 (.t 3), (some (15, true)), true, false, []⟩,
  ⟨some 17, .ld none [] (.o 16), (some (15, true)), true, false, [16]⟩,
  ⟨some 18, .call (.c (.fn 102 [] [])) [.o 17, .c (.fn 103 [] [])], (some (15, true)), true, false, [17]⟩,
  ⟨some 19, .call (.c (.fn 99 [] [])) [.o 18], (some (15, true)), true, false, [18]⟩,
  ⟨some 20, .pick (.t 15) (.t 19) (.c (.bool false)), none, false, false, [15, 19]⟩,
  ⟨some 21, .mv (.t 20), none, false, false, [20]⟩,
  ⟨some 22, .fa 6 (.t 3), (some (21, true)), true, false, []⟩,
  ⟨some 23, .ld none [] (.o 22), (some (21, true)), true, false, [22]⟩,
  ⟨some 24, .call (.c (.fn 104 [] [])) [.o 23, .c (.fn 105 [] [])], (some (21, true)), true, false, [23]⟩,
  ⟨some 25, .call (.c (.fn 99 [] [])) [.o 24], (some (21, true)), true, false, [24]⟩,
  ⟨some 26, .pick (.t 21) (.t 25) (.c (.bool false)), none, false, false, [21, 25]⟩,
  ⟨some 27, .mv (.t 26), none, false, false, [26]⟩,
  ⟨some 28, .fa 3 (.t 3), (some (27, true)), true, false, []⟩,
  ⟨some 29, .ld none [] (.o 28), (some (27, true)), true, false, [28]⟩,
  ⟨some 30, .call (.c (.fn 93 [] [])) [.o 29, .c (.fn 106 [] [])], (some (27, true)), true, false, [29]⟩,
  ⟨some 31, .pick (.t 27) (.t 30) (.c (.bool false)), none, false, false, [27, 30]⟩,
  ⟨some 32, .mv (.t 31), none, false, false, [31]⟩,
  ⟨some 33, .fa 6 (.t 3), (some (32, true)), true, false, []⟩,
  ⟨some 34, .ld none [] (.o 33), (some (32, true)), true, false, [33]⟩,
  ⟨some 35, .call (.c (.fn 95 [] [])) [.o 34, .c (.fn 107 [] [])], (some (32, true)), true, false, [34]⟩,
  ⟨some 36, .pick (.t 32) (.t 35) (.c (.bool false)), none, false, false, [32, 35]⟩,
  ⟨some 37, .mv (.t 36), none, false, false, [36]⟩,
  ⟨some 38, .fa 7 (.t 3), (some (37, true)), true, false, [3]⟩,
  ⟨some 39, .ld none [] (.o 38), (some (37, true)), true, false, [38]⟩,
  ⟨some 40, .call (.c (.fn 109 [] [])) [.o 39, .c (.fn 110 [] [])], (some (37, true)), true, false, [39]⟩,
  ⟨some 41, .fa 7 (.t 2), (some (37, true)), true, false, [2]⟩,
  ⟨some 42, .ld none [] (.o 41), (some (37, true)), true, false, [41]⟩,
  ⟨some 43, .call (.c (.fn 111 [] [])) [.o 42, .c (.fn 112 [] [])], (some (37, true)), true, false, [42]⟩,
  ⟨some 44, .call (.c (.fn 108 [] [])) [.o 40, .o 43], (some (37, true)), true, false, [40, 43]⟩,
  ⟨some 45, .pick (.t 37) (.t 44) (.c (.bool false)), none, false, false, [37, 44]⟩,
  ⟨some 4, .mv (.t 45), none, false, false, [45]⟩])
 (.ret))
def rs_state_orders : List IRes := [.t 4]
theorem ok_state_orders : fnOk Tryz.prog 56 ic_state_orders rs_state_orders 46 = true := by kernel_rfl

/-- tallyman/state.orders$1 -/
def ic_state_orders_1 : ICode :=
 .seq (.ops 0 false [⟨some 1, .box (.t 0), none, false, false, [0]⟩,
  ⟨some 2, .mv (.c (.int .i64 0)), none, false, false, [2]⟩])
 (.seq (.ops 1 false [⟨some 3, .fa 0 (.t 1), none, false, false, [1]⟩,
  ⟨some 4, .fa 0 (.t 3), none, false, false, [3]⟩,
  ⟨some 5, .ld none [] (.t 4), none, false, false, [4]⟩,
  ⟨some 2, .mv (.t 5), none, false, false, [5]⟩])
 (.ret))
def rs_state_orders_1 : List IRes := [.t 2]
theorem ok_state_orders_1 : fnOk Tryz.prog 101 ic_state_orders_1 rs_state_orders_1 6 = true := by kernel_rfl

/-- tallyman/state.orders$2 -/
def ic_state_orders_2 : ICode :=
 .seq (.ops 0 false [⟨some 1, .box (.t 0), none, false, false, [0]⟩,
  ⟨some 2, .mv (.c (.int .i64 0)), none, false, false, [2]⟩])
 (.seq (.ops 1 false [⟨some 3, .fa 0 (.t 1), none, false, false, [1]⟩,
  ⟨some 4, .ld none [] (.t 3), none, false, false, [3]⟩,
  ⟨some 2, .mv (.t 4), none, false, false, [4]⟩])
 (.ret))
def rs_state_orders_2 : List IRes := [.t 2]
theorem ok_state_orders_2 : fnOk Tryz.prog 105 ic_state_orders_2 rs_state_orders_2 5 = true := by kernel_rfl

/-- tallyman/state.orders$3 -/
def ic_state_orders_3 : ICode :=
 .seq (.ops 0 false [⟨some 1, .box (.t 0), none, false, false, [0]⟩,
  ⟨some 2, .mv (.c (.bool false)), none, false, false, [2]⟩])
 (.seq (.ops 1 false [⟨some 3, .fa 13 (.t 1), none, false, false, [1]⟩,
  ⟨some 4, .ld none [] (.t 3), none, false, false, [3]⟩,
  ⟨some 5, .call (.c (.fn 99 [] [])) [.t 4], none, false, false, [4]⟩,
  ⟨some 2, .mv (.t 5), none, false, false, [5]⟩])
 (.ret))
def rs_state_orders_3 : List IRes := [.t 2]
theorem ok_state_orders_3 : fnOk Tryz.prog 106 ic_state_orders_3 rs_state_orders_3 6 = true := by kernel_rfl

/-- tallyman/state.orders$4 -/
def ic_state_orders_4 : ICode :=
 .seq (.ops 0 false [⟨some 1, .box (.t 0), none, false, false, [0]⟩,
  ⟨some 2, .mv (.c (.bool false)), none, false, false, [2]⟩])
 (.seq (.ops 1 false [⟨some 3, .fa 6 (.t 1), none, false, false, [1]⟩,
  ⟨some 4, .ld none [] (.t 3), none, false, false, [3]⟩,
  ⟨some 5, .call (.c (.fn 99 [] [])) [.t 4], none, false, false, [4]⟩,
  ⟨some 2, .mv (.t 5), none, false, false, [5]⟩])
 (.ret))
def rs_state_orders_4 : List IRes := [.t 2]
theorem ok_state_orders_4 : fnOk Tryz.prog 107 ic_state_orders_4 rs_state_orders_4 6 = true := by kernel_rfl

/-- tallyman/state.orders$5 -/
def ic_state_orders_5 : ICode :=
 .seq (.ops 0 false [⟨some 1, .box (.t 0), none, false, false, [0]⟩,
  ⟨some 2, .mv (.c (.int .i64 0)), none, false, false, [2]⟩])
 (.seq (.ops 1 false [⟨some 3, .fa 0 (.t 1), none, false, false, [1]⟩,
  ⟨some 4, .ld none [] (.t 3), none, false, false, [3]⟩,
  ⟨some 2, .mv (.t 4), none, false, false, [4]⟩])
 (.ret))
def rs_state_orders_5 : List IRes := [.t 2]
theorem ok_state_orders_5 : fnOk Tryz.prog 110 ic_state_orders_5 rs_state_orders_5 5 = true := by kernel_rfl

/-- tallyman/state.orders$6 -/
def ic_state_orders_6 : ICode :=
 .seq (.ops 0 false [⟨some 1, .box (.t 0), none, false, false, [0]⟩,
  ⟨some 2, .mv (.c (.int .i64 0)), none, false, false, [2]⟩])
 (.seq (.ops 1 false [⟨some 3, .fa 0 (.t 1), none, false, false, [1]⟩,
  ⟨some 4, .ld none [] (.t 3), none, false, false, [3]⟩,
  ⟨some 2, .mv (.t 4), none, false, false, [4]⟩])
 (.ret))
def rs_state_orders_6 : List IRes := [.t 2]
theorem ok_state_orders_6 : fnOk Tryz.prog 112 ic_state_orders_6 rs_state_orders_6 5 = true := by kernel_rfl

/-- tallyman/state.within -/
def ic_state_within : ICode :=
 .seq (.ops 0 false [⟨some 2, .box (.t 0), none, false, false, [0]⟩,
  ⟨some 3, .box (.t 1), none, false, false, [1]⟩,
  ⟨some 4, .mv (.c (.bool false)), none, false, false, [4]⟩])
 (.seq (.ops 1 false [⟨some 9, .call (.c (.fn 113 [] [])) [.c (.int .i64 1), .c (.int .i64 999)], none, false, false, []⟩,
  ⟨some 10, .call (.c (.fn 113 [] [])) [.c (.int .i64 0), .c (.int .i64 2147483647)], none, false, false, []⟩,
  ⟨some 11, .call (.c (.fn 113 [] [])) [.c (.int .i64 1), .c (.int .i64 2147483647)], none, false, false, []⟩,
  ⟨some 5, .alloc [.val .nilFunc], none, false, false, []⟩,
  ⟨some 6, .alloc [.val .nilFunc], none, false, false, []⟩,
  ⟨some 7, .alloc [.val .nilFunc], none, false, false, []⟩,
  ⟨none, .st 1 (.t 5) (.t 9), none, false, false, [9]⟩,
  ⟨none, .st 1 (.t 6) (.t 10), none, false, false, [10]⟩,
  ⟨none, .st 1 (.t 7) (.t 11), none, false, false, [11]⟩])
 (.seq (.ops 2 true [⟨some 12, .fa 3 (.t 3), none, false, false, []⟩,
  ⟨some 13, .ld none [] (.t 12), none, false, false, [12]⟩,
  ⟨some 14, .call (.c (.fn 100 [] [])) [.t 13, .c (.fn 115 [] [])], none, true, false, [13]⟩,
  ⟨some 15, .call (.c (.fn 114 [] [])) [.t 14, .c (.fn 116 [] [])], none, true, false, [14]⟩,
  ⟨some 16, .len (.t 15), none, false, false, [15]⟩,
  ⟨some 17, .fa 0 (.t 2), none, false, true, []⟩,
  ⟨some 18, .ld none [] (.t 17), none, false, true, [17]⟩,
  ⟨some 19, .bin .add (.t 16) (.t 18), none, false, false, [16, 18]⟩,
  ⟨some 20, .fa 3 (.t 3), none, false, true, []⟩,
  ⟨some 21, .ld none [] (.t 20), none, false, true, [20]⟩,
  ⟨some 22, .len (.t 21), none, false, true, [21]⟩,
  ⟨some 23, .bin .sub (.t 19) (.t 22), none, false, false, [19, 22]⟩,
  ⟨some 8, .mv (.t 23), none, false, false, [23]⟩])
 (.seq (.ops 3 true [⟨some 24, .fa 6 (.t 2), none, false, false, []⟩,
  ⟨some 25, .ld none [] (.t 24), none, false, false, [24]⟩,
  ⟨some 26, .call (.c (.fn 113 [] [])) [.t 25, .c (.int .i64 2147483647)], none, false, false, [25]⟩,
  ⟨some 27, .fa 0 (.t 3), none, false, false, []⟩,
  ⟨some 28, .ld none [] (.t 27), none, false, false, [27]⟩,
  ⟨some 29, .call (.t 26) [.t 28], none, false, false, [26, 28]⟩,
  ⟨some 30, .mv (.t 29), none, false, false, [29]⟩,
  ⟨some 31, .mv (.t 8), (some (30, true)), true, false, [8]⟩,
  ⟨some 32, .bin .sub (.c (.int .i64 2147483647)) (.o 31), (some (30, true)), true, false, [31]⟩,
  ⟨some 33, .call (.c (.fn 113 [] [])) [.c (.int .i64 0), .o 32], (some (30, true)), true, false, [32]⟩,
  ⟨some 34, .fa 1 (.t 3), (some (30, true)), true, false, []⟩,
  ⟨some 35, .ld none [] (.o 34), (some (30, true)), true, false, [34]⟩,
  ⟨some 36, .call (.o 33) [.o 35], (some (30, true)), true, false, [33, 35]⟩,
  ⟨some 37, .pick (.t 30) (.t 36) (.c (.bool false)), none, false, false, [30, 36]⟩,
  ⟨some 38, .mv (.t 37), none, false, false, [37]⟩,
  ⟨some 39, .ld none [] (.t 6), (some (38, true)), true, false, []⟩,
  ⟨some 40, .fa 2 (.t 3), (some (38, true)), true, false, []⟩,
  ⟨some 41, .ld none [] (.o 40), (some (38, true)), true, false, [40]⟩,
  ⟨some 42, .call (.o 39) [.o 41], (some (38, true)), true, false, [39, 41]⟩,
  ⟨some 43, .pick (.t 38) (.t 42) (.c (.bool false)), none, false, false, [38, 42]⟩,
  ⟨some 44, .mv (.t 43), none, false, false, [43]⟩,
  ⟨some 45, .fa 3 (.t 3), (some (44, true)), true, false, []⟩,
  ⟨some 46, .ld none [] (.o 45), (some (44, true)), true, false, [45]⟩,
  ⟨some 47, .mkfn 117 [] [.t 3, .t 2, .t 5], (some (44, true)), true, false, [2]⟩,
  ⟨some 48, .call (.c (.fn 93 [] [])) [.o 46, .o 47], (some (44, true)), true, false, [46, 47]⟩,
  ⟨some 49, .pick (.t 44) (.t 48) (.c (.bool false)), none, false, false, [44, 48]⟩,
  ⟨some 50, .mv (.t 49), none, false, false, [49]⟩,
  ⟨some 51, .fa 4 (.t 3), (some (50, true)), true, false, []⟩,
  ⟨some 52, .ld none [] (.o 51), (some (50, true)), true, false, [51]⟩,
  ⟨some 53, .call (.c (.fn 102 [] [])) [.o 52, .c (.fn 103 [] [])], (some (50, true)), true, false, [52]⟩,
  ⟨some 54, .ld none [] (.t 5), (some (50, true)), true, false, []⟩,
  ⟨some 55, .call (.c (.fn 119 [] [])) [.o 53, .o 54], (some (50, true)), true, false, [53, 54]⟩,
  ⟨some 56, .pick (.t 50) (.t 55) (.c (.bool false)), none, false, false, [50, 55]⟩,
  ⟨some 57, .mv (.t 56), none, false, false, [56]⟩,
  ⟨some 58, .fa 5 (.t 3), (some (57, true)), true, false, []⟩,
  ⟨some 59, .ld none [] (.o 58), (some (57, true)), true, false, [58]⟩,
  ⟨some 60, .call (.c (.fn 102 [] [])) [.o 59, .c (.fn 103 [] [])], (some (57, true)), true, false, [59]⟩,
  ⟨some 61, .ld none [] (.t 5), (some (57, true)), true, false, []⟩,
  ⟨some 62, .call (.c (.fn 119 [] [])) [.o 60, .o 61], (some (57, true)), true, false, [60, 61]⟩,
  ⟨some 63, .pick (.t 57) (.t 62) (.c (.bool false)), none, false, false, [57, 62]⟩,
  ⟨some 64, .mv (.t 63), none, false, false, [63]⟩,
  ⟨some 65, .fa 6 (.t 3), (some (64, true)), true, false, []⟩,
  ⟨some 66, .ld none [] (.o 65), (some (64, true)), true, false, [65]⟩,
  ⟨some 67, .mkfn 120 [] [.t 3, .t 5], (some (64, true)), true, false, [5]⟩,
  ⟨some 68, .call (.c (.fn 95 [] [])) [.o 66, .o 67], (some (64, true)), true, false, [66, 67]⟩,
  ⟨some 69, .pick (.t 64) (.t 68) (.c (.bool false)), none, false, false, [64, 68]⟩,
  ⟨some 70, .mv (.t 69), none, false, false, [69]⟩,
  ⟨some 71, .fa 7 (.t 3), (some (70, true)), true, false, [3]⟩,
  ⟨some 72, .ld none [] (.o 71), (some (70, true)), true, false, [71]⟩,
  ⟨some 73, .mkfn 121 [] [.t 6, .t 7], (some (70, true)), true, false, [6, 7]⟩,
  ⟨some 74, .call (.c (.fn 97 [] [])) [.o 72, .o 73], (some (70, true)), true, false, [72, 73]⟩,
  ⟨some 75, .pick (.t 70) (.t 74) (.c (.bool false)), none, false, false, [70, 74]⟩,
  ⟨some 4, .mv (.t 75), none, false, false, [75]⟩])
 (.ret))))
def rs_state_within : List IRes := [.t 4]
theorem ok_state_within : fnOk Tryz.prog 57 ic_state_within rs_state_within 76 = true := by kernel_rfl

/-- tallyman/state.within$1 -/
def ic_state_within_1 : ICode :=
 .seq (.ops 0 false [⟨some 1, .box (.t 0), none, false, false, [0]⟩,
  ⟨some 2, .mv (.c (.int .i64 0)), none, false, false, [2]⟩])
 (.seq (.ops 1 false [⟨some 3, .fa 10 (.t 1), none, false, false, [1]⟩,
  ⟨some 4, .ld none [] (.t 3), none, false, false, [3]⟩,
  ⟨some 2, .mv (.t 4), none, false, false, [4]⟩])
 (.ret))
def rs_state_within_1 : List IRes := [.t 2]
theorem ok_state_within_1 : fnOk Tryz.prog 115 ic_state_within_1 rs_state_within_1 5 = true := by kernel_rfl

/-- tallyman/state.within$2 -/
def ic_state_within_2 : ICode :=
 .seq (.ops 0 false [⟨some 2, .mv (.c (.bool false)), none, false, false, [2]⟩])
 (.seq (.ops 1 false [⟨some 3, .mv (.t 0), none, false, false, [0]⟩,
  ⟨some 4, .bin .neq (.t 3) (.c (.int .i64 0)), none, false, false, [3]⟩,
  ⟨some 2, .mv (.t 4), none, false, false, [4]⟩])
 (.ret))
def rs_state_within_2 : List IRes := [.t 2]
theorem ok_state_within_2 : fnOk Tryz.prog 116 ic_state_within_2 rs_state_within_2 5 = true := by kernel_rfl

/-- tallyman/state.within$3 -/
def ic_state_within_3 : ICode :=
 .seq (.ops 0 false [⟨some 4, .box (.t 0), none, false, false, [0]⟩,
  ⟨some 5, .mv (.c (.bool false)), none, false, false, [5]⟩])
 (.seq (.ops 1 true [⟨some 6, .fa 0 (.t 4), none, false, false, []⟩,
  ⟨some 7, .ld (some 9) [] (.t 6), none, false, false, [6]⟩,
  ⟨some 8, .call (.c (.fn 118 [] [])) [.t 7], none, false, false, [7]⟩,
  ⟨some 9, .bin .eql (.t 8) (.c (.int .i64 0)), none, false, false, [8]⟩,
  ⟨some 10, .mv (.t 9), none, false, false, [9]⟩,
  ⟨some 11, .call (.c (.fn 113 [] [])) [.c (.int .i64 1), .c (.int .i64 6)], (some (10, true)), true, false, []⟩,
  ⟨some 12, .fa 9 (.t 4), (some (10, true)), true, false, []⟩,
  ⟨some 13, .ld none [] (.o 12), (some (10, true)), true, false, [12]⟩,
  ⟨some 14, .call (.o 11) [.o 13], (some (10, true)), true, false, [11, 13]⟩,
  ⟨some 15, .pick (.t 10) (.t 14) (.c (.bool false)), none, false, false, [10, 14]⟩,
  ⟨some 16, .mv (.t 15), none, false, false, [15]⟩,
  ⟨some 17, .fa 1 (.t 1), (some (16, true)), true, false, []⟩,
  ⟨some 18, .ld none [] (.o 17), (some (16, true)), true, false, [17]⟩,
  ⟨some 19, .call (.c (.fn 113 [] [])) [.c (.int .i64 0), .o 18], (some (16, true)), true, false, [18]⟩,
  ⟨some 20, .fa 10 (.t 4), (some (16, true)), true, false, []⟩,
  ⟨some 21, .ld none [] (.o 20), (some (16, true)), true, false, [20]⟩,
  ⟨some 22, .call (.o 19) [.o 21], (some (16, true)), true, false, [19, 21]⟩,
  ⟨some 23, .pick (.t 16) (.t 22) (.c (.bool false)), none, false, false, [16, 22]⟩,
  ⟨some 24, .mv (.t 23), none, false, false, [23]⟩,
  ⟨some 25, .fa 0 (.t 1), (some (24, true)), true, false, [1]⟩,
  ⟨some 26, .ld none [] (.o 25), (some (24, true)), true, false, [25]⟩,
  ⟨some 27, .call (.c (.fn 113 [] [])) [.c (.int .i64 0), .o 26], (some (24, true)), true, false, [26]⟩,
  ⟨some 28, .fa 11 (.t 4), (some (24, true)), true, false, []⟩,
  ⟨some 29, .ld none [] (.o 28), (some (24, true)), true, false, [28]⟩,
  ⟨some 30, .call (.o 27) [.o 29], (some (24, true)), true, false, [27, 29]⟩,
  ⟨some 31, .pick (.t 24) (.t 30) (.c (.bool false)), none, false, false, [24, 30]⟩,
  ⟨some 32, .mv (.t 31), none, false, false, [31]⟩,
  ⟨some 33, .fa 4 (.t 2), (some (32, true)), true, false, [2]⟩,
  ⟨some 34, .ld none [] (.o 33), (some (32, true)), true, false, [33]⟩,
  ⟨some 35, .call (.c (.fn 113 [] [])) [.c (.int .i64 0), .o 34], (some (32, true)), true, false, [34]⟩,
  ⟨some 36, .fa 12 (.t 4), (some (32, true)), true, false, []⟩,
  ⟨some 37, .ld none [] (.o 36), (some (32, true)), true, false, [36]⟩,
  ⟨some 38, .call (.o 35) [.o 37], (some (32, true)), true, false, [35, 37]⟩,
  ⟨some 39, .pick (.t 32) (.t 38) (.c (.bool false)), none, false, false, [32, 38]⟩,
  ⟨some 40, .mv (.t 39), none, false, false, [39]⟩,
  ⟨some 41, .fa 13 (.t 4), (some (40, true)), true, false, [4]⟩,
  ⟨some 42, .ld none [] (.o 41), (some (40, true)), true, false, [41]⟩,
  ⟨some 43, .ld none [] (.t 3), (some (40, true)), true, false, [3]⟩,
  ⟨some 44, .call (.c (.fn 119 [] [])) [.o 42, .o 43], (some (40, true)), true, false, [42, 43]⟩,
  ⟨some 45, .pick (.t 40) (.t 44) (.c (.bool false)), none, false, false, [40, 44]⟩,
  ⟨some 5, .mv (.t 45), none, false, false, [45]⟩])
 (.ret))
def rs_state_within_3 : List IRes := [.t 5]
theorem ok_state_within_3 : fnOk Tryz.prog 117 ic_state_within_3 rs_state_within_3 46 = true := by kernel_rfl

/-- tallyman/state.within$4 -/
def ic_state_within_4 : ICode :=
 .seq (.ops 0 false [⟨some 3, .box (.t 0), none, false, false, [0]⟩,
  ⟨some 4, .mv (.c (.bool false)), none, false, false, [4]⟩])
 (.seq (.ops 1 true [⟨some 5, .fa 2 (.t 1), none, false, false, [1]⟩,
  ⟨some 6, .ld none [] (.t 5), none, false, false, [5]⟩,
  ⟨some 7, .call (.c (.fn 113 [] [])) [.c (.int .i64 1), .t 6], none, false, false, [6]⟩,
  ⟨some 8, .fa 0 (.t 3), none, false, false, []⟩,
  ⟨some 9, .ld none [] (.t 8), none, false, false, [8]⟩,
  ⟨some 10, .call (.t 7) [.t 9], none, false, false, [7, 9]⟩,
  ⟨some 11, .mv (.t 10), none, false, false, [10]⟩,
  ⟨some 12, .fa 1 (.t 3), (some (11, true)), true, false, []⟩,
  ⟨some 13, .ld none [] (.o 12), (some (11, true)), true, false, [12]⟩,
  ⟨some 14, .fa 2 (.t 3), (some (11, true)), true, false, []⟩,
  ⟨some 15, .ld none [] (.o 14), (some (11, true)), true, false, [14]⟩,
  ⟨some 16, .fa 3 (.t 3), (some (11, true)), true, false, []⟩,
  ⟨some 17, .ld none [] (.o 16), (some (11, true)), true, false, [16]⟩,
  ⟨some 18, .rowView 1 [.o 13, .o 15, .o 17], (some (11, true)), true, false, [13, 15, 17]⟩,
  ⟨some 19, .ld none [] (.t 2), (some (11, true)), true, false, [2]⟩,
  ⟨some 20, .call (.c (.fn 119 [] [])) [.o 18, .o 19], (some (11, true)), true, false, [18, 19]⟩,
  ⟨some 21, .pick (.t 11) (.t 20) (.c (.bool false)), none, false, false, [11, 20]⟩,
  ⟨some 22, .mv (.t 21), none, false, false, [21]⟩,
  ⟨some 23, .call (.c (.fn 113 [] [])) [.c (.int .i64 (-1)), .c (.int .i64 2147483647)], (some (22, true)), true, false, []⟩,
  ⟨some 24, .fa 4 (.t 3), (some (22, true)), true, false, []⟩,
  ⟨some 25, .ld none [] (.o 24), (some (22, true)), true, false, [24]⟩,
  ⟨some 26, .call (.o 23) [.o 25], (some (22, true)), true, false, [23, 25]⟩,
  ⟨some 27, .pick (.t 22) (.t 26) (.c (.bool false)), none, false, false, [22, 26]⟩,
  ⟨some 28, .mv (.t 27), none, false, false, [27]⟩,
  ⟨some 29, .fa 6 (.t 3), (some (28, true)), true, false, []⟩,
  ⟨some 30, .ld none [] (.o 29), (some (28, true)), true, false, [29]⟩,
  ⟨some 31, .len (.o 30), (some (28, true)), true, false, [30]⟩,
  ⟨some 32, .call (.c (.fn 113 [] [])) [.c (.int .i64 0), .o 31], (some (28, true)), true, false, [31]⟩,
  ⟨some 33, .fa 5 (.t 3), (some (28, true)), true, false, [3]⟩,
  ⟨some 34, .ld none [] (.o 33), (some (28, true)), true, false, [33]⟩,
  ⟨some 35, .call (.o 32) [.o 34], (some (28, true)), true, false, [32, 34]⟩,
  ⟨some 36, .pick (.t 28) (.t 35) (.c (.bool false)), none, false, false, [28, 35]⟩,
  ⟨some 4, .mv (.t 36), none, false, false, [36]⟩])
 (.ret))
def rs_state_within_4 : List IRes := [.t 4]
theorem ok_state_within_4 : fnOk Tryz.prog 120 ic_state_within_4 rs_state_within_4 37 = true := by kernel_rfl

/-- tallyman/state.within$5 -/
def ic_state_within_5 : ICode :=
 .seq (.ops 0 false [⟨some 3, .box (.t 0), none, false, false, [0]⟩,
  ⟨some 4, .mv (.c (.bool false)), none, false, false, [4]⟩])
 (.seq (.ops 1 false [⟨some 5, .ld none [] (.t 1), none, false, false, [1]⟩,
  ⟨some 6, .fa 1 (.t 3), none, false, false, []⟩,
  ⟨some 7, .ld none [] (.t 6), none, false, false, [6]⟩,
  ⟨some 8, .call (.t 5) [.t 7], none, false, false, [5, 7]⟩,
  ⟨some 9, .mv (.t 8), none, false, false, [8]⟩,
  ⟨some 10, .fa 2 (.t 3), (some (9, true)), true, false, [3]⟩,
  ⟨some 11, .ld none [] (.o 10), (some (9, true)), true, false, [10]⟩,
  ⟨some 12, .ld none [] (.t 2), (some (9, true)), true, false, [2]⟩,
  ⟨some 13, .call (.c (.fn 119 [] [])) [.o 11, .o 12], (some (9, true)), true, false, [11, 12]⟩,
  ⟨some 14, .pick (.t 9) (.t 13) (.c (.bool false)), none, false, false, [9, 13]⟩,
  ⟨some 4, .mv (.t 14), none, false, false, [14]⟩])
 (.ret))
def rs_state_within_5 : List IRes := [.t 4]
theorem ok_state_within_5 : fnOk Tryz.prog 121 ic_state_within_5 rs_state_within_5 15 = true := by kernel_rfl

/-- tallyman/tallymanref07.Has -/
def ic_r07_Has : ICode :=
 .seq (.ops 0 false [⟨some 2, .box (.t 0), none, false, false, [0]⟩,
  ⟨some 3, .box (.t 1), none, false, false, [1]⟩,
  ⟨some 4, .mv (.c (.bool false)), none, false, false, [4]⟩])
 (.seq (.ops 1 false [⟨some 5, .fa 1 (.t 2), none, false, false, []⟩,
  ⟨some 6, .fa 0 (.t 5), none, false, false, [5]⟩,
  ⟨some 7, .ld none [] (.t 6), none, false, false, [6]⟩,
  ⟨some 8, .fa 0 (.t 3), none, false, false, []⟩,
  ⟨some 9, .ld none [] (.t 8), none, false, false, [8]⟩,
  ⟨some 10, .bin .leq (.t 7) (.t 9), none, false, false, [7, 9]⟩,
  ⟨some 11, .mv (.t 10), none, false, false, [10]⟩,
  ⟨some 12, .fa 0 (.t 3), (some (11, true)), true, false, []⟩,
  ⟨some 13, .ld none [] (.o 12), (some (11, true)), true, false, [12]⟩,
  ⟨some 14, .fa 3 (.t 2), (some (11, true)), true, false, []⟩,
  ⟨some 15, .fa 0 (.o 14), (some (11, true)), true, false, [14]⟩,
  ⟨some 16, .ld none [] (.o 15), (some (11, true)), true, false, [15]⟩,
  ⟨some 17, .bin .leq (.o 13) (.o 16), (some (11, true)), true, false, [13, 16]⟩,
  ⟨some 18, .pick (.t 11) (.t 17) (.c (.bool false)), none, false, false, [11, 17]⟩,
  ⟨some 19, .mv (.t 18), none, false, false, [18]⟩,
  ⟨some 20, .fa 1 (.t 2), (some (19, true)), true, false, []⟩,
  ⟨some 21, .fa 1 (.o 20), (some (19, true)), true, false, [20]⟩,
  ⟨some 22, .ld none [] (.o 21), (some (19, true)), true, false, [21]⟩,
  ⟨some 23, .fa 1 (.t 3), (some (19, true)), true, false, []⟩,
  ⟨some 24, .ld none [] (.o 23), (some (19, true)), true, false, [23]⟩,
  ⟨some 25, .bin .leq (.o 22) (.o 24), (some (19, true)), true, false, [22, 24]⟩,
  ⟨some 26, .pick (.t 19) (.t 25) (.c (.bool false)), none, false, false, [19, 25]⟩,
  ⟨some 27, .mv (.t 26), none, false, false, [26]⟩,
  ⟨some 28, .fa 1 (.t 3), (some (27, true)), true, false, [3]⟩,
  ⟨some 29, .ld none [] (.o 28), (some (27, true)), true, false, [28]⟩,
  ⟨some 30, .fa 3 (.t 2), (some (27, true)), true, false, [2]⟩,
  ⟨some 31, .fa 1 (.o 30), (some (27, true)), true, false, [30]⟩,
  ⟨some 32, .ld none [] (.o 31), (some (27, true)), true, false, [31]⟩,
  ⟨some 33, .bin .leq (.o 29) (.o 32), (some (27, true)), true, false, [29, 32]⟩,
  ⟨some 34, .pick (.t 27) (.t 33) (.c (.bool false)), none, false, false, [27, 33]⟩,
  ⟨some 4, .mv (.t 34), none, false, false, [34]⟩])
 (.ret))
def rs_r07_Has : List IRes := [.t 4]
theorem ok_r07_Has : fnOk Tryz.prog 145 ic_r07_Has rs_r07_Has 35 = true := by kernel_rfl

/-- tallyman/tallymanref07.Meet -/
def ic_r07_Meet : ICode :=
 .seq (.ops 0 false [⟨some 2, .box (.t 0), none, false, false, [0]⟩,
  ⟨some 3, .box (.t 1), none, false, false, [1]⟩,
  ⟨some 4, .mv (.c (.bool false)), none, false, false, [4]⟩])
 (.seq (.ops 1 false [⟨some 6, .fa 1 (.t 2), none, false, false, []⟩,
  ⟨some 7, .fa 0 (.t 6), none, false, false, [6]⟩,
  ⟨some 8, .ld none [] (.t 7), none, false, false, [7]⟩,
  ⟨some 9, .fa 1 (.t 3), none, false, false, []⟩,
  ⟨some 10, .fa 0 (.t 9), none, false, false, [9]⟩,
  ⟨some 11, .ld none [] (.t 10), none, false, false, [10]⟩,
  ⟨some 12, .mx [.t 8, .t 11], none, false, false, [8, 11]⟩,
  ⟨some 13, .fa 1 (.t 2), none, false, false, []⟩,
  ⟨some 14, .fa 1 (.t 13), none, false, false, [13]⟩,
  ⟨some 15, .ld none [] (.t 14), none, false, false, [14]⟩,
  ⟨some 16, .fa 1 (.t 3), none, false, false, []⟩,
  ⟨some 17, .fa 1 (.t 16), none, false, false, [16]⟩,
  ⟨some 18, .ld none [] (.t 17), none, false, false, [17]⟩,
  ⟨some 19, .mx [.t 15, .t 18], none, false, false, [15, 18]⟩,
  ⟨some 20, .build [.int .i64 0, .int .i64 0] [(0, 1, .t 12), (1, 1, .t 19)], none, false, false, [12, 19]⟩,
  ⟨some 5, .alloc [.int .i64 0, .int .i64 0], none, false, false, []⟩,
  ⟨none, .st 2 (.t 5) (.t 20), none, false, false, [20]⟩])
 (.seq (.ops 2 false [⟨some 21, .ld (some 5) [] (.t 2), none, false, false, [2]⟩,
  ⟨some 22, .ld (some 2) [] (.t 5), none, false, false, []⟩,
  ⟨some 23, .call (.c (.fn 145 [] [])) [.t 21, .t 22], none, false, false, [21, 22]⟩,
  ⟨some 24, .mv (.t 23), none, false, false, [23]⟩,
  ⟨some 25, .ld (some 5) [] (.t 3), (some (24, true)), true, false, [3]⟩,
  ⟨some 26, .ld (some 2) [] (.t 5), (some (24, true)), true, false, [5]⟩,
  ⟨some 27, .call (.c (.fn 145 [] [])) [.o 25, .o 26], (some (24, true)), true, false, [25, 26]⟩,
  ⟨some 28, .pick (.t 24) (.t 27) (.c (.bool false)), none, false, false, [24, 27]⟩,
  ⟨some 4, .mv (.t 28), none, false, false, [28]⟩])
 (.ret)))
def rs_r07_Meet : List IRes := [.t 4]
theorem ok_r07_Meet : fnOk Tryz.prog 130 ic_r07_Meet rs_r07_Meet 29 = true := by kernel_rfl

/-- tallyman/tallymanref07.Right -/
def ic_r07_Right : ICode :=
 .seq (.ops 0 false [⟨some 2, .mv (.c (.bool false)), none, false, false, [2]⟩])
 (.seq (.seq (.ops 1 false [⟨some 6, .mv (.t 0), none, false, false, []⟩,
  ⟨some 7, .len (.t 6), none, false, false, [6]⟩,
  ⟨some 8, .bin .gtr (.t 7) (.c (.int .i64 32)), none, false, false, [7]⟩])
 (.cond (.t 8)
  (.seq (.ops 2 false [⟨some 2, .mv (.c (.bool false)), none, false, false, []⟩])
  (.ret))
  (.skip)))
 (.seq (.seq (.ops 3 false [⟨some 3, .mv (.c (.int .i64 0)), none, false, false, []⟩])
 (.block 0 (.loop [0, 3] (.seq (.seq (.ops 4 false [⟨some 9, .mv (.t 3), none, false, false, []⟩,
    ⟨some 10, .mv (.t 0), none, false, false, []⟩,
    ⟨some 11, .len (.t 10), none, false, false, [10]⟩,
    ⟨some 12, .bin .lss (.t 9) (.t 11), none, false, false, [9, 11]⟩])
   (.cond (.t 12)
    (.skip)
    (.exit 0)))
   (.seq (.block 1 (.seq (.ops 6 false [⟨some 15, .mv (.t 0), none, false, false, []⟩,
     ⟨some 16, .mv (.t 3), none, false, false, []⟩,
     ⟨some 17, .ia 5 [.int .i64 0, .int .i64 0, .int .i64 0, .int .i64 0, .int .i64 0] (.t 15) (.t 16), none, false, false, [15, 16]⟩,
     ⟨some 18, .ld (some 5) [.int .i64 0, .int .i64 0, .int .i64 0, .int .i64 0, .int .i64 0] (.t 17), none, false, false, [17]⟩,
     ⟨some 4, .alloc [.int .i64 0, .int .i64 0, .int .i64 0, .int .i64 0, .int .i64 0], none, false, false, []⟩,
     ⟨none, .st 5 (.t 4) (.t 18), none, false, false, [18]⟩])
    (.seq (.seq (.ops 7 true [⟨some 19, .fa 0 (.t 4), none, false, false, []⟩,
     ⟨some 20, .ld none [] (.t 19), none, false, false, [19]⟩,
     ⟨some 21, .bin .lss (.t 20) (.c (.int .i64 1)), none, false, false, [20]⟩,
     ⟨some 22, .mv (.t 21), none, false, false, [21]⟩,
     ⟨some 23, .fa 0 (.t 4), (some (22, false)), true, false, []⟩,
     ⟨some 24, .ld none [] (.o 23), (some (22, false)), true, false, [23]⟩,
     ⟨some 25, .bin .gtr (.o 24) (.c (.int .i64 999)), (some (22, false)), true, false, [24]⟩,
     ⟨some 26, .pick (.t 22) (.c (.bool true)) (.t 25), none, false, false, [22, 25]⟩,
     ⟨some 27, .mv (.t 26), none, false, false, [26]⟩,
     ⟨some 28, .mv (.t 3), (some (27, false)), true, false, []⟩,
     ⟨some 29, .bin .gtr (.o 28) (.c (.int .i64 0)), (some (27, false)), true, false, [28]⟩,
     ⟨some 30, .mv (.o 29), (some (27, false)), true, false, [29]⟩,
     ⟨some 31, .fa 0 (.t 4), (some (30, true)), true, false, []⟩,
     ⟨some 32, .ld none [] (.o 31), (some (30, true)), true, false, [31]⟩,
     ⟨some 33, .mv (.t 0), (some (30, true)), true, false, []⟩,
     ⟨some 34, .mv (.t 3), (some (30, true)), true, false, []⟩,
     ⟨some 35, .bin .sub (.o 34) (.c (.int .i64 1)), (some (30, true)), true, false, [34]⟩,
     ⟨some 36, .ia 5 [.int .i64 0, .int .i64 0, .int .i64 0, .int .i64 0, .int .i64 0] (.o 33) (.o 35), (some (30, true)), true, false, [33, 35]⟩,
     ⟨some 37, .fa 0 (.o 36), (some (30, true)), true, false, [36]⟩,
     ⟨some 38, .ld none [.int .i64 0, .int .i64 0, .int .i64 0, .int .i64 0, .int .i64 0] (.o 37), (some (30, true)), true, false, [37]⟩,
     ⟨some 39, .bin .leq (.o 32) (.o 38), (some (30, true)), true, false, [32, 38]⟩,
     ⟨some 40, .pick (.o 30) (.t 39) (.c (.bool false)), (some (27, false)), true, false, [30, 39]⟩,
     ⟨some 41, .pick (.t 27) (.c (.bool true)) (.t 40), none, false, false, [27, 40]⟩,
     ⟨some 42, .mv (.t 41), none, false, false, [41]⟩,
     ⟨some 43, .fa 1 (.t 4), (some (42, false)), true, false, []⟩,
     ⟨some 44, .ld (some 2) [] (.o 43), (some (42, false)), true, false, [43]⟩,
     ⟨some 45, .call (.c (.fn 129 [] [])) [.o 44, .c (.int .i64 1000)], (some (42, false)), true, false, [44]⟩,
     ⟨some 46, .not (.o 45), (some (42, false)), true, false, [45]⟩,
     ⟨some 47, .pick (.t 42) (.c (.bool true)) (.t 46), none, false, false, [42, 46]⟩,
     ⟨some 48, .mv (.t 47), none, false, false, [47]⟩,
     ⟨some 49, .fa 3 (.t 4), (some (48, false)), true, false, []⟩,
     ⟨some 50, .ld (some 2) [] (.o 49), (some (48, false)), true, false, [49]⟩,
     ⟨some 51, .call (.c (.fn 129 [] [])) [.o 50, .c (.int .i64 1000)], (some (48, false)), true, false, [50]⟩,
     ⟨some 52, .not (.o 51), (some (48, false)), true, false, [51]⟩,
     ⟨some 53, .pick (.t 48) (.c (.bool true)) (.t 52), none, false, false, [48, 52]⟩,
     ⟨some 54, .mv (.t 53), none, false, false, [53]⟩,
     ⟨some 55, .fa 1 (.t 4), (some (54, false)), true, false, []⟩,
     ⟨some 56, .fa 0 (.o 55), (some (54, false)), true, false, [55]⟩,
     ⟨some 57, .ld none [] (.o 56), (some (54, false)), true, false, [56]⟩,
     ⟨some 58, .fa 3 (.t 4), (some (54, false)), true, false, []⟩,
     ⟨some 59, .fa 0 (.o 58), (some (54, false)), true, false, [58]⟩,
     ⟨some 60, .ld none [] (.o 59), (some (54, false)), true, false, [59]⟩,
     ⟨some 61, .bin .gtr (.o 57) (.o 60), (some (54, false)), true, false, [57, 60]⟩,
     ⟨some 62, .pick (.t 54) (.c (.bool true)) (.t 61), none, false, false, [54, 61]⟩,
     ⟨some 63, .mv (.t 62), none, false, false, [62]⟩,
     ⟨some 64, .fa 1 (.t 4), (some (63, false)), true, false, []⟩,
     ⟨some 65, .fa 1 (.o 64), (some (63, false)), true, false, [64]⟩,
     ⟨some 66, .ld none [] (.o 65), (some (63, false)), true, false, [65]⟩,
     ⟨some 67, .fa 3 (.t 4), (some (63, false)), true, false, []⟩,
     ⟨some 68, .fa 1 (.o 67), (some (63, false)), true, false, [67]⟩,
     ⟨some 69, .ld none [] (.o 68), (some (63, false)), true, false, [68]⟩,
     ⟨some 70, .bin .gtr (.o 66) (.o 69), (some (63, false)), true, false, [66, 69]⟩,
     ⟨some 71, .pick (.t 63) (.c (.bool true)) (.t 70), none, false, false, [63, 70]⟩])
    (.cond (.t 71)
     (.seq (.ops 8 false [⟨some 2, .mv (.c (.bool false)), none, false, false, []⟩])
     (.ret))
     (.skip)))
    (.seq (.ops 9 false [⟨some 5, .mv (.c (.int .i64 0)), none, false, false, []⟩])
    (.block 2 (.loop [0, 3, 4, 5] (.seq (.seq (.ops 10 false [⟨some 72, .mv (.t 5), none, false, false, []⟩,
       ⟨some 73, .mv (.t 3), none, false, false, []⟩,
       ⟨some 74, .bin .lss (.t 72) (.t 73), none, false, false, [72, 73]⟩])
      (.cond (.t 74)
       (.skip)
       (.exit 2)))
      (.seq (.block 3 (.seq (.ops 12 true [⟨some 77, .mv (.t 0), none, false, false, []⟩,
        ⟨some 78, .mv (.t 5), none, false, false, []⟩,
        ⟨some 79, .ia 5 [.int .i64 0, .int .i64 0, .int .i64 0, .int .i64 0, .int .i64 0] (.t 77) (.t 78), none, false, false, [77, 78]⟩,
        ⟨some 80, .ld (some 5) [.int .i64 0, .int .i64 0, .int .i64 0, .int .i64 0, .int .i64 0] (.t 79), none, false, false, [79]⟩,
        ⟨some 81, .ld (some 5) [] (.t 4), none, false, false, []⟩,
        ⟨some 82, .call (.c (.fn 130 [] [])) [.t 80, .t 81], none, false, false, [80, 81]⟩])
       (.cond (.t 82)
        (.seq (.ops 13 false [⟨some 2, .mv (.c (.bool false)), none, false, false, []⟩])
        (.ret))
        (.skip))))
      (.ops 11 false [⟨some 75, .mv (.t 5), none, false, false, [5]⟩,
       ⟨some 76, .bin .add (.t 75) (.c (.int .i64 1)), none, false, false, [75]⟩,
       ⟨some 5, .mv (.t 76), none, false, false, [76]⟩])))))))))
   (.ops 5 false [⟨some 13, .mv (.t 3), none, false, false, [3]⟩,
    ⟨some 14, .bin .add (.t 13) (.c (.int .i64 1)), none, false, false, [13]⟩,
    ⟨some 3, .mv (.t 14), none, false, false, [14]⟩]))))))
 (.seq (.ops 14 false [⟨some 2, .mv (.c (.bool true)), none, false, false, []⟩])
 (.ret))))
def rs_r07_Right : List IRes := [.t 2]
theorem ok_r07_Right : fnOk Tryz.prog 82 ic_r07_Right rs_r07_Right 83 = true := by kernel_rfl

/-- tallyman/tallymanref19.All -/
def ic_r19_All : ICode :=
 .seq (.ops 0 false [⟨some 4, .mv (.c (.bool false)), none, false, false, [4]⟩])
 (.seq (.seq (.ops 1 false [⟨some 6, .mv (.t 0), none, false, false, []⟩,
  ⟨some 7, .len (.t 6), none, false, false, [6]⟩,
  ⟨some 8, .mv (.t 1), none, false, false, []⟩,
  ⟨some 9, .len (.t 8), none, false, false, [8]⟩,
  ⟨some 10, .bin .neq (.t 7) (.t 9), none, false, false, [7, 9]⟩])
 (.cond (.t 10)
  (.seq (.ops 2 false [⟨some 4, .mv (.c (.bool false)), none, false, false, []⟩])
  (.ret))
  (.skip)))
 (.seq (.seq (.ops 3 false [⟨some 5, .mv (.c (.int .i64 0)), none, false, false, []⟩])
 (.block 0 (.loop [0, 1, 5] (.seq (.seq (.ops 4 false [⟨some 11, .mv (.t 5), none, false, false, []⟩,
    ⟨some 12, .mv (.t 0), none, false, false, []⟩,
    ⟨some 13, .len (.t 12), none, false, false, [12]⟩,
    ⟨some 14, .bin .lss (.t 11) (.t 13), none, false, false, [11, 13]⟩])
   (.cond (.t 14)
    (.skip)
    (.exit 0)))
   (.seq (.block 1 (.seq (.ops 6 true [⟨some 17, .mv (.t 0), none, false, false, []⟩,
     ⟨some 18, .mv (.t 5), none, false, false, []⟩,
     ⟨some 19, .ia 3 [.int .i64 0, .int .i64 0, .view []] (.t 17) (.t 18), none, false, false, [17, 18]⟩,
     ⟨some 20, .ld (some 3) [.int .i64 0, .int .i64 0, .view []] (.t 19), none, false, false, [19]⟩,
     ⟨some 21, .mv (.t 1), none, false, false, []⟩,
     ⟨some 22, .mv (.t 5), none, false, false, []⟩,
     ⟨some 23, .ia 3 [.int .i64 0, .int .i64 0, .view []] (.t 21) (.t 22), none, false, false, [21, 22]⟩,
     ⟨some 24, .ld (some 3) [.int .i64 0, .int .i64 0, .view []] (.t 23), none, false, false, [23]⟩,
     ⟨some 25, .call (.c (.fn 80 [] [])) [.t 20, .t 24], none, false, false, [20, 24]⟩,
     ⟨some 26, .not (.t 25), none, false, false, [25]⟩])
    (.cond (.t 26)
     (.seq (.ops 7 false [⟨some 4, .mv (.c (.bool false)), none, false, false, []⟩])
     (.ret))
     (.skip))))
   (.ops 5 false [⟨some 15, .mv (.t 5), none, false, false, [5]⟩,
    ⟨some 16, .bin .add (.t 15) (.c (.int .i64 1)), none, false, false, [15]⟩,
    ⟨some 5, .mv (.t 16), none, false, false, [16]⟩]))))))
 (.seq (.ops 8 false [⟨some 4, .mv (.c (.bool true)), none, false, false, []⟩])
 (.ret))))
def rs_r19_All : List IRes := [.t 4]
theorem ok_r19_All : fnOk Tryz.prog 49 ic_r19_All rs_r19_All 27 = true := by kernel_rfl

/-- tallyman/tallymanref19.Same -/
def ic_r19_Same : ICode :=
 .seq (.ops 0 false [⟨some 2, .box (.t 0), none, false, false, [0]⟩,
  ⟨some 3, .box (.t 1), none, false, false, [1]⟩,
  ⟨some 4, .mv (.c (.bool false)), none, false, false, [4]⟩])
 (.seq (.ops 1 false [⟨some 5, .fa 0 (.t 2), none, false, false, []⟩,
  ⟨some 6, .ld none [] (.t 5), none, false, false, [5]⟩,
  ⟨some 7, .fa 0 (.t 3), none, false, false, []⟩,
  ⟨some 8, .ld none [] (.t 7), none, false, false, [7]⟩,
  ⟨some 9, .bin .eql (.t 6) (.t 8), none, false, false, [6, 8]⟩,
  ⟨some 10, .mv (.t 9), none, false, false, [9]⟩,
  ⟨some 11, .fa 1 (.t 2), (some (10, true)), true, false, []⟩,
  ⟨some 12, .ld none [] (.o 11), (some (10, true)), true, false, [11]⟩,
  ⟨some 13, .fa 1 (.t 3), (some (10, true)), true, false, []⟩,
  ⟨some 14, .ld none [] (.o 13), (some (10, true)), true, false, [13]⟩,
  ⟨some 15, .bin .eql (.o 12) (.o 14), (some (10, true)), true, false, [12, 14]⟩,
  ⟨some 16, .pick (.t 10) (.t 15) (.c (.bool false)), none, false, false, [10, 15]⟩,
  ⟨some 17, .mv (.t 16), none, false, false, [16]⟩,
  ⟨some 18, .fa 2 (.t 2), (some (17, true)), true, false, [2]⟩,
  ⟨some 19, .ld none [] (.o 18), (some (17, true)), true, false, [18]⟩,
  ⟨some 20, .fa 2 (.t 3), (some (17, true)), true, false, [3]⟩,
  ⟨some 21, .ld none [] (.o 20), (some (17, true)), true, false, [20]⟩,
  ⟨some 22, .call (.c (.fn 78 [] [])) [.o 19, .o 21], (some (17, true)), true, false, [19, 21]⟩,
  ⟨some 23, .pick (.t 17) (.t 22) (.c (.bool false)), none, false, false, [17, 22]⟩,
  ⟨some 4, .mv (.t 23), none, false, false, [23]⟩])
 (.ret))
def rs_r19_Same : List IRes := [.t 4]
theorem ok_r19_Same : fnOk Tryz.prog 80 ic_r19_Same rs_r19_Same 24 = true := by kernel_rfl

/-- tallyman/tallymanref22.Rules -/
def ic_r22_Rules : ICode :=
 .seq (.ops 0 false [⟨some 1, .box (.t 0), none, false, false, [0]⟩,
  ⟨some 2, .mv (.c (.int .i64 0)), none, false, false, [2]⟩])
 (.seq (.seq (.ops 1 false [⟨some 3, .fa 0 (.t 1), none, false, false, []⟩,
  ⟨some 4, .ld none [] (.t 3), none, false, false, [3]⟩,
  ⟨some 5, .call (.c (.fn 81 [] [])) [.t 4, .c (.int .i64 1), .c (.int .i64 64)], none, false, false, [4]⟩,
  ⟨some 6, .not (.t 5), none, false, false, [5]⟩,
  ⟨some 7, .mv (.t 6), none, false, false, [6]⟩,
  ⟨some 8, .fa 1 (.t 1), (some (7, false)), true, false, []⟩,
  ⟨some 9, .ld none [] (.o 8), (some (7, false)), true, false, [8]⟩,
  ⟨some 10, .call (.c (.fn 81 [] [])) [.o 9, .c (.int .i64 1), .c (.int .i64 16)], (some (7, false)), true, false, [9]⟩,
  ⟨some 11, .not (.o 10), (some (7, false)), true, false, [10]⟩,
  ⟨some 12, .pick (.t 7) (.c (.bool true)) (.t 11), none, false, false, [7, 11]⟩,
  ⟨some 13, .mv (.t 12), none, false, false, [12]⟩,
  ⟨some 14, .fa 2 (.t 1), (some (13, false)), true, false, []⟩,
  ⟨some 15, .ld none [] (.o 14), (some (13, false)), true, false, [14]⟩,
  ⟨some 16, .call (.c (.fn 81 [] [])) [.o 15, .c (.int .i64 1), .c (.int .i64 16)], (some (13, false)), true, false, [15]⟩,
  ⟨some 17, .not (.o 16), (some (13, false)), true, false, [16]⟩,
  ⟨some 18, .pick (.t 13) (.c (.bool true)) (.t 17), none, false, false, [13, 17]⟩,
  ⟨some 19, .mv (.t 18), none, false, false, [18]⟩,
  ⟨some 20, .fa 3 (.t 1), (some (19, false)), true, false, []⟩,
  ⟨some 21, .ld none [] (.o 20), (some (19, false)), true, false, [20]⟩,
  ⟨some 22, .call (.c (.fn 81 [] [])) [.o 21, .c (.int .i64 1), .c (.int .i64 1000)], (some (19, false)), true, false, [21]⟩,
  ⟨some 23, .not (.o 22), (some (19, false)), true, false, [22]⟩,
  ⟨some 24, .pick (.t 19) (.c (.bool true)) (.t 23), none, false, false, [19, 23]⟩,
  ⟨some 25, .mv (.t 24), none, false, false, [24]⟩,
  ⟨some 26, .fa 4 (.t 1), (some (25, false)), true, false, []⟩,
  ⟨some 27, .ld none [] (.o 26), (some (25, false)), true, false, [26]⟩,
  ⟨some 28, .call (.c (.fn 81 [] [])) [.o 27, .c (.int .i64 1), .c (.int .i64 64)], (some (25, false)), true, false, [27]⟩,
  ⟨some 29, .not (.o 28), (some (25, false)), true, false, [28]⟩,
  ⟨some 30, .pick (.t 25) (.c (.bool true)) (.t 29), none, false, false, [25, 29]⟩,
  ⟨some 31, .mv (.t 30), none, false, false, [30]⟩,
  ⟨some 32, .fa 5 (.t 1), (some (31, false)), true, false, []⟩,
  ⟨some 33, .ld none [] (.o 32), (some (31, false)), true, false, [32]⟩,
  ⟨some 34, .call (.c (.fn 81 [] [])) [.o 33, .c (.int .i64 0), .c (.int .i64 1048576)], (some (31, false)), true, false, [33]⟩,
  ⟨some 35, .not (.o 34), (some (31, false)), true, false, [34]⟩,
  ⟨some 36, .pick (.t 31) (.c (.bool true)) (.t 35), none, false, false, [31, 35]⟩,
  ⟨some 37, .mv (.t 36), none, false, false, [36]⟩,
  ⟨some 38, .fa 6 (.t 1), (some (37, false)), true, false, []⟩,
  ⟨some 39, .ld none [] (.o 38), (some (37, false)), true, false, [38]⟩,
  ⟨some 40, .call (.c (.fn 81 [] [])) [.o 39, .c (.int .i64 0), .c (.int .i64 2147483647)], (some (37, false)), true, false, [39]⟩,
  ⟨some 41, .not (.o 40), (some (37, false)), true, false, [40]⟩,
  ⟨some 42, .pick (.t 37) (.c (.bool true)) (.t 41), none, false, false, [37, 41]⟩])
 (.cond (.t 42)
  (.seq (.ops 2 false [⟨some 2, .mv (.c (.int .i64 2)), none, false, false, []⟩])
  (.ret))
  (.skip)))
 (.seq (.seq (.ops 3 false [⟨some 43, .fa 7 (.t 1), none, false, false, [1]⟩,
  ⟨some 44, .ld none [] (.t 43), none, false, false, [43]⟩,
  ⟨some 45, .call (.c (.fn 82 [] [])) [.t 44], none, false, false, [44]⟩,
  ⟨some 46, .not (.t 45), none, false, false, [45]⟩])
 (.cond (.t 46)
  (.seq (.ops 4 false [⟨some 2, .mv (.c (.int .i64 1)), none, false, false, []⟩])
  (.ret))
  (.skip)))
 (.seq (.ops 5 false [⟨some 2, .mv (.c (.int .i64 0)), none, false, false, []⟩])
 (.ret))))
def rs_r22_Rules : List IRes := [.t 2]
theorem ok_r22_Rules : fnOk Tryz.prog 50 ic_r22_Rules rs_r22_Rules 47 = true := by kernel_rfl

/-- tallyman/tallymanref22.within -/
def ic_r22_within : ICode :=
 .seq (.ops 0 false [⟨some 6, .mv (.c (.bool false)), none, false, false, [6]⟩])
 (.seq (.ops 1 false [⟨some 7, .mv (.t 0), none, false, false, []⟩,
  ⟨some 8, .mv (.t 1), none, false, false, [1]⟩,
  ⟨some 9, .bin .geq (.t 7) (.t 8), none, false, false, [7, 8]⟩,
  ⟨some 10, .mv (.t 9), none, false, false, [9]⟩,
  ⟨some 11, .mv (.t 0), (some (10, true)), true, false, [0]⟩,
  ⟨some 12, .mv (.t 2), (some (10, true)), true, false, [2]⟩,
  ⟨some 13, .bin .leq (.o 11) (.o 12), (some (10, true)), true, false, [11, 12]⟩,
  ⟨some 14, .pick (.t 10) (.t 13) (.c (.bool false)), none, false, false, [10, 13]⟩,
  ⟨some 6, .mv (.t 14), none, false, false, [14]⟩])
 (.ret))
def rs_r22_within : List IRes := [.t 6]
theorem ok_r22_within : fnOk Tryz.prog 81 ic_r22_within rs_r22_within 15 = true := by kernel_rfl

/-- tallyman/tallymanref23.Few -/
def ic_r23_Few : ICode :=
 .seq (.ops 0 false [⟨some 4, .mv (.c (.bool false)), none, false, false, [4]⟩])
 (.seq (.seq (.ops 1 false [⟨some 6, .mv (.t 0), none, false, false, []⟩,
  ⟨some 7, .len (.t 6), none, false, false, [6]⟩,
  ⟨some 8, .mv (.t 1), none, false, false, [1]⟩,
  ⟨some 9, .bin .gtr (.t 7) (.t 8), none, false, false, [7, 8]⟩])
 (.cond (.t 9)
  (.seq (.ops 2 false [⟨some 4, .mv (.c (.bool false)), none, false, false, []⟩])
  (.ret))
  (.skip)))
 (.seq (.seq (.ops 3 false [⟨some 5, .mv (.c (.int .i64 0)), none, false, false, []⟩])
 (.block 0 (.loop [0, 5] (.seq (.seq (.ops 4 false [⟨some 10, .mv (.t 5), none, false, false, []⟩,
    ⟨some 11, .mv (.t 0), none, false, false, []⟩,
    ⟨some 12, .len (.t 11), none, false, false, [11]⟩,
    ⟨some 13, .bin .lss (.t 10) (.t 12), none, false, false, [10, 12]⟩])
   (.cond (.t 13)
    (.skip)
    (.exit 0)))
   (.seq (.block 1 (.seq (.ops 6 false [⟨some 16, .mv (.t 0), none, false, false, []⟩,
     ⟨some 17, .mv (.t 5), none, false, false, []⟩,
     ⟨some 18, .ia 14 [.int .i64 0, .int .i64 0, .int .u64 0, .int .u64 0, .int .i64 0, .int .i64 0, .int .i64 0, .int .i64 0, .view [], .int .i64 0, .int .i64 0, .int .i64 0, .int .i64 0, .view []] (.t 16) (.t 17), none, false, false, [16, 17]⟩,
     ⟨some 19, .fa 0 (.t 18), none, false, false, [18]⟩,
     ⟨some 20, .fa 8 (.t 19), none, false, false, [19]⟩,
     ⟨some 21, .ld none [.int .i64 0, .int .i64 0, .int .u64 0, .int .u64 0, .int .i64 0, .int .i64 0, .int .i64 0, .int .i64 0, .view [], .int .i64 0, .int .i64 0, .int .i64 0, .int .i64 0, .view []] (.t 20), none, false, false, [20]⟩,
     ⟨some 22, .len (.t 21), none, false, false, [21]⟩,
     ⟨some 23, .bin .gtr (.t 22) (.c (.int .i64 20)), none, false, false, [22]⟩,
     ⟨some 24, .mv (.t 23), none, false, false, [23]⟩,
     ⟨some 25, .mv (.t 0), (some (24, false)), true, false, []⟩,
     ⟨some 26, .mv (.t 5), (some (24, false)), true, false, []⟩,
     ⟨some 27, .ia 14 [.int .i64 0, .int .i64 0, .int .u64 0, .int .u64 0, .int .i64 0, .int .i64 0, .int .i64 0, .int .i64 0, .view [], .int .i64 0, .int .i64 0, .int .i64 0, .int .i64 0, .view []] (.o 25) (.o 26), (some (24, false)), true, false, [25, 26]⟩,
     ⟨some 28, .fa 13 (.o 27), (some (24, false)), true, false, [27]⟩,
     ⟨some 29, .ld none [.int .i64 0, .int .i64 0, .int .u64 0, .int .u64 0, .int .i64 0, .int .i64 0, .int .i64 0, .int .i64 0, .view [], .int .i64 0, .int .i64 0, .int .i64 0, .int .i64 0, .view []] (.o 28), (some (24, false)), true, false, [28]⟩,
     ⟨some 30, .len (.o 29), (some (24, false)), true, false, [29]⟩,
     ⟨some 31, .bin .gtr (.o 30) (.c (.int .i64 40)), (some (24, false)), true, false, [30]⟩,
     ⟨some 32, .pick (.t 24) (.c (.bool true)) (.t 31), none, false, false, [24, 31]⟩])
    (.cond (.t 32)
     (.seq (.ops 7 false [⟨some 4, .mv (.c (.bool false)), none, false, false, []⟩])
     (.ret))
     (.skip))))
   (.ops 5 false [⟨some 14, .mv (.t 5), none, false, false, [5]⟩,
    ⟨some 15, .bin .add (.t 14) (.c (.int .i64 1)), none, false, false, [14]⟩,
    ⟨some 5, .mv (.t 15), none, false, false, [15]⟩]))))))
 (.seq (.ops 8 false [⟨some 4, .mv (.c (.bool true)), none, false, false, []⟩])
 (.ret))))
def rs_r23_Few : List IRes := [.t 4]
theorem ok_r23_Few : fnOk Tryz.prog 15 ic_r23_Few rs_r23_Few 33 = true := by kernel_rfl

/-- tallyman/tallymanref25.Same -/
def ic_r25_Same : ICode :=
 .seq (.ops 0 false [⟨some 4, .mv (.c (.bool false)), none, false, false, [4]⟩])
 (.seq (.seq (.ops 1 false [⟨some 6, .mv (.t 0), none, false, false, []⟩,
  ⟨some 7, .len (.t 6), none, false, false, [6]⟩,
  ⟨some 8, .mv (.t 1), none, false, false, []⟩,
  ⟨some 9, .len (.t 8), none, false, false, [8]⟩,
  ⟨some 10, .bin .neq (.t 7) (.t 9), none, false, false, [7, 9]⟩])
 (.cond (.t 10)
  (.seq (.ops 2 false [⟨some 4, .mv (.c (.bool false)), none, false, false, []⟩])
  (.ret))
  (.skip)))
 (.seq (.seq (.ops 3 false [⟨some 5, .mv (.c (.int .i64 0)), none, false, false, []⟩])
 (.block 0 (.loop [0, 1, 5] (.seq (.seq (.ops 4 false [⟨some 11, .mv (.t 5), none, false, false, []⟩,
    ⟨some 12, .mv (.t 0), none, false, false, []⟩,
    ⟨some 13, .len (.t 12), none, false, false, [12]⟩,
    ⟨some 14, .bin .lss (.t 11) (.t 13), none, false, false, [11, 13]⟩])
   (.cond (.t 14)
    (.skip)
    (.exit 0)))
   (.seq (.block 1 (.seq (.ops 6 true [⟨some 17, .mv (.t 0), none, false, false, []⟩,
     ⟨some 18, .mv (.t 5), none, false, false, []⟩,
     ⟨some 19, .ia 3 [.int .i64 0, .int .u64 0, .bool false] (.t 17) (.t 18), none, false, false, [17, 18]⟩,
     ⟨some 20, .ld (some 3) [.int .i64 0, .int .u64 0, .bool false] (.t 19), none, false, false, [19]⟩,
     ⟨some 21, .mv (.t 1), none, false, false, []⟩,
     ⟨some 22, .mv (.t 5), none, false, false, []⟩,
     ⟨some 23, .ia 3 [.int .i64 0, .int .u64 0, .bool false] (.t 21) (.t 22), none, false, false, [21, 22]⟩,
     ⟨some 24, .ld (some 3) [.int .i64 0, .int .u64 0, .bool false] (.t 23), none, false, false, [23]⟩,
     ⟨some 25, .eqc true [false, false, true] (.t 20) (.t 24), none, false, false, [20, 24]⟩])
    (.cond (.t 25)
     (.seq (.ops 7 false [⟨some 4, .mv (.c (.bool false)), none, false, false, []⟩])
     (.ret))
     (.skip))))
   (.ops 5 false [⟨some 15, .mv (.t 5), none, false, false, [5]⟩,
    ⟨some 16, .bin .add (.t 15) (.c (.int .i64 1)), none, false, false, [15]⟩,
    ⟨some 5, .mv (.t 16), none, false, false, [16]⟩]))))))
 (.seq (.ops 8 false [⟨some 4, .mv (.c (.bool true)), none, false, false, []⟩])
 (.ret))))
def rs_r25_Same : List IRes := [.t 4]
theorem ok_r25_Same : fnOk Tryz.prog 47 ic_r25_Same rs_r25_Same 26 = true := by kernel_rfl

/-- tallyman/tallymanref26.All -/
def ic_r26_All : ICode :=
 .seq (.ops 0 false [⟨some 4, .mv (.c (.bool false)), none, false, false, [4]⟩])
 (.seq (.seq (.ops 1 false [⟨some 6, .mv (.t 0), none, false, false, []⟩,
  ⟨some 7, .len (.t 6), none, false, false, [6]⟩,
  ⟨some 8, .mv (.t 1), none, false, false, []⟩,
  ⟨some 9, .len (.t 8), none, false, false, [8]⟩,
  ⟨some 10, .bin .neq (.t 7) (.t 9), none, false, false, [7, 9]⟩])
 (.cond (.t 10)
  (.seq (.ops 2 false [⟨some 4, .mv (.c (.bool false)), none, false, false, []⟩])
  (.ret))
  (.skip)))
 (.seq (.seq (.ops 3 false [⟨some 5, .mv (.c (.int .i64 0)), none, false, false, []⟩])
 (.block 0 (.loop [0, 1, 5] (.seq (.seq (.ops 4 false [⟨some 11, .mv (.t 5), none, false, false, []⟩,
    ⟨some 12, .mv (.t 0), none, false, false, []⟩,
    ⟨some 13, .len (.t 12), none, false, false, [12]⟩,
    ⟨some 14, .bin .lss (.t 11) (.t 13), none, false, false, [11, 13]⟩])
   (.cond (.t 14)
    (.skip)
    (.exit 0)))
   (.seq (.block 1 (.seq (.ops 6 true [⟨some 17, .mv (.t 0), none, false, false, []⟩,
     ⟨some 18, .mv (.t 5), none, false, false, []⟩,
     ⟨some 19, .ia 7 [.int .i64 0, .int .i64 0, .int .i64 0, .int .i64 0, .int .i64 0, .int .i64 0, .view []] (.t 17) (.t 18), none, false, false, [17, 18]⟩,
     ⟨some 20, .ld (some 7) [.int .i64 0, .int .i64 0, .int .i64 0, .int .i64 0, .int .i64 0, .int .i64 0, .view []] (.t 19), none, false, false, [19]⟩,
     ⟨some 21, .mv (.t 1), none, false, false, []⟩,
     ⟨some 22, .mv (.t 5), none, false, false, []⟩,
     ⟨some 23, .ia 7 [.int .i64 0, .int .i64 0, .int .i64 0, .int .i64 0, .int .i64 0, .int .i64 0, .view []] (.t 21) (.t 22), none, false, false, [21, 22]⟩,
     ⟨some 24, .ld (some 7) [.int .i64 0, .int .i64 0, .int .i64 0, .int .i64 0, .int .i64 0, .int .i64 0, .view []] (.t 23), none, false, false, [23]⟩,
     ⟨some 25, .call (.c (.fn 79 [] [])) [.t 20, .t 24], none, false, false, [20, 24]⟩,
     ⟨some 26, .not (.t 25), none, false, false, [25]⟩])
    (.cond (.t 26)
     (.seq (.ops 7 false [⟨some 4, .mv (.c (.bool false)), none, false, false, []⟩])
     (.ret))
     (.skip))))
   (.ops 5 false [⟨some 15, .mv (.t 5), none, false, false, [5]⟩,
    ⟨some 16, .bin .add (.t 15) (.c (.int .i64 1)), none, false, false, [15]⟩,
    ⟨some 5, .mv (.t 16), none, false, false, [16]⟩]))))))
 (.seq (.ops 8 false [⟨some 4, .mv (.c (.bool true)), none, false, false, []⟩])
 (.ret))))
def rs_r26_All : List IRes := [.t 4]
theorem ok_r26_All : fnOk Tryz.prog 48 ic_r26_All rs_r26_All 27 = true := by kernel_rfl

/-- tallyman/tallymanref26.Same -/
def ic_r26_Same : ICode :=
 .seq (.ops 0 false [⟨some 2, .box (.t 0), none, false, false, [0]⟩,
  ⟨some 3, .box (.t 1), none, false, false, [1]⟩,
  ⟨some 4, .mv (.c (.bool false)), none, false, false, [4]⟩])
 (.seq (.ops 1 false [⟨some 5, .fa 0 (.t 2), none, false, false, []⟩,
  ⟨some 6, .ld none [] (.t 5), none, false, false, [5]⟩,
  ⟨some 7, .fa 0 (.t 3), none, false, false, []⟩,
  ⟨some 8, .ld none [] (.t 7), none, false, false, [7]⟩,
  ⟨some 9, .bin .eql (.t 6) (.t 8), none, false, false, [6, 8]⟩,
  ⟨some 10, .mv (.t 9), none, false, false, [9]⟩,
  ⟨some 11, .fa 1 (.t 2), (some (10, true)), true, false, []⟩,
  ⟨some 12, .ld none [] (.o 11), (some (10, true)), true, false, [11]⟩,
  ⟨some 13, .fa 1 (.t 3), (some (10, true)), true, false, []⟩,
  ⟨some 14, .ld none [] (.o 13), (some (10, true)), true, false, [13]⟩,
  ⟨some 15, .bin .eql (.o 12) (.o 14), (some (10, true)), true, false, [12, 14]⟩,
  ⟨some 16, .pick (.t 10) (.t 15) (.c (.bool false)), none, false, false, [10, 15]⟩,
  ⟨some 17, .mv (.t 16), none, false, false, [16]⟩,
  ⟨some 18, .fa 2 (.t 2), (some (17, true)), true, false, []⟩,
  ⟨some 19, .ld none [] (.o 18), (some (17, true)), true, false, [18]⟩,
  ⟨some 20, .fa 2 (.t 3), (some (17, true)), true, false, []⟩,
  ⟨some 21, .ld none [] (.o 20), (some (17, true)), true, false, [20]⟩,
  ⟨some 22, .bin .eql (.o 19) (.o 21), (some (17, true)), true, false, [19, 21]⟩,
  ⟨some 23, .pick (.t 17) (.t 22) (.c (.bool false)), none, false, false, [17, 22]⟩,
  ⟨some 24, .mv (.t 23), none, false, false, [23]⟩,
  ⟨some 25, .fa 3 (.t 2), (some (24, true)), true, false, []⟩,
  ⟨some 26, .ld none [] (.o 25), (some (24, true)), true, false, [25]⟩,
  ⟨some 27, .fa 3 (.t 3), (some (24, true)), true, false, []⟩,
  ⟨some 28, .ld none [] (.o 27), (some (24, true)), true, false, [27]⟩,
  ⟨some 29, .bin .eql (.o 26) (.o 28), (some (24, true)), true, false, [26, 28]⟩,
  ⟨some 30, .pick (.t 24) (.t 29) (.c (.bool false)), none, false, false, [24, 29]⟩,
  ⟨some 31, .mv (.t 30), none, false, false, [30]⟩,
  ⟨some 32, .fa 4 (.t 2), (some (31, true)), true, false, []⟩,
  ⟨some 33, .ld none [] (.o 32), (some (31, true)), true, false, [32]⟩,
  ⟨some 34, .fa 4 (.t 3), (some (31, true)), true, false, []⟩,
  ⟨some 35, .ld none [] (.o 34), (some (31, true)), true, false, [34]⟩,
  ⟨some 36, .bin .eql (.o 33) (.o 35), (some (31, true)), true, false, [33, 35]⟩,
  ⟨some 37, .pick (.t 31) (.t 36) (.c (.bool false)), none, false, false, [31, 36]⟩,
  ⟨some 38, .mv (.t 37), none, false, false, [37]⟩,
  ⟨some 39, .fa 5 (.t 2), (some (38, true)), true, false, []⟩,
  ⟨some 40, .ld none [] (.o 39), (some (38, true)), true, false, [39]⟩,
  ⟨some 41, .fa 5 (.t 3), (some (38, true)), true, false, []⟩,
  ⟨some 42, .ld none [] (.o 41), (some (38, true)), true, false, [41]⟩,
  ⟨some 43, .bin .eql (.o 40) (.o 42), (some (38, true)), true, false, [40, 42]⟩,
  ⟨some 44, .pick (.t 38) (.t 43) (.c (.bool false)), none, false, false, [38, 43]⟩,
  ⟨some 45, .mv (.t 44), none, false, false, [44]⟩,
  ⟨some 46, .fa 6 (.t 2), (some (45, true)), true, false, [2]⟩,
  ⟨some 47, .ld none [] (.o 46), (some (45, true)), true, false, [46]⟩,
  ⟨some 48, .fa 6 (.t 3), (some (45, true)), true, false, [3]⟩,
  ⟨some 49, .ld none [] (.o 48), (some (45, true)), true, false, [48]⟩,
  ⟨some 50, .call (.c (.fn 78 [] [])) [.o 47, .o 49], (some (45, true)), true, false, [47, 49]⟩,
  ⟨some 51, .pick (.t 45) (.t 50) (.c (.bool false)), none, false, false, [45, 50]⟩,
  ⟨some 4, .mv (.t 51), none, false, false, [51]⟩])
 (.ret))
def rs_r26_Same : List IRes := [.t 4]
theorem ok_r26_Same : fnOk Tryz.prog 79 ic_r26_Same rs_r26_Same 52 = true := by kernel_rfl

/-- tallyman/tallymanref30.Few -/
def ic_r30_Few : ICode :=
 .seq (.ops 0 false [⟨some 1, .box (.t 0), none, false, false, [0]⟩,
  ⟨some 2, .mv (.c (.bool false)), none, false, false, [2]⟩])
 (.seq (.seq (.ops 1 false [⟨some 5, .fa 3 (.t 1), none, false, false, []⟩,
  ⟨some 6, .ld none [] (.t 5), none, false, false, [5]⟩,
  ⟨some 7, .call (.c (.fn 15 [] [])) [.t 6, .c (.int .i64 70)], none, false, false, [6]⟩,
  ⟨some 8, .not (.t 7), none, false, false, [7]⟩,
  ⟨some 9, .mv (.t 8), none, false, false, [8]⟩,
  ⟨some 10, .fa 4 (.t 1), (some (9, false)), true, false, []⟩,
  ⟨some 11, .ld none [] (.o 10), (some (9, false)), true, false, [10]⟩,
  ⟨some 12, .len (.o 11), (some (9, false)), true, false, [11]⟩,
  ⟨some 13, .bin .gtr (.o 12) (.c (.int .i64 40)), (some (9, false)), true, false, [12]⟩,
  ⟨some 14, .pick (.t 9) (.c (.bool true)) (.t 13), none, false, false, [9, 13]⟩,
  ⟨some 15, .mv (.t 14), none, false, false, [14]⟩,
  ⟨some 16, .fa 5 (.t 1), (some (15, false)), true, false, []⟩,
  ⟨some 17, .ld none [] (.o 16), (some (15, false)), true, false, [16]⟩,
  ⟨some 18, .len (.o 17), (some (15, false)), true, false, [17]⟩,
  ⟨some 19, .bin .gtr (.o 18) (.c (.int .i64 40)), (some (15, false)), true, false, [18]⟩,
  ⟨some 20, .pick (.t 15) (.c (.bool true)) (.t 19), none, false, false, [15, 19]⟩,
  ⟨some 21, .mv (.t 20), none, false, false, [20]⟩,
  ⟨some 22, .fa 6 (.t 1), (some (21, false)), true, false, []⟩,
  ⟨some 23, .ld none [] (.o 22), (some (21, false)), true, false, [22]⟩,
  ⟨some 24, .len (.o 23), (some (21, false)), true, false, [23]⟩,
  ⟨some 25, .bin .gtr (.o 24) (.c (.int .i64 40)), (some (21, false)), true, false, [24]⟩,
  ⟨some 26, .pick (.t 21) (.c (.bool true)) (.t 25), none, false, false, [21, 25]⟩,
  ⟨some 27, .mv (.t 26), none, false, false, [26]⟩,
  ⟨some 28, .fa 7 (.t 1), (some (27, false)), true, false, []⟩,
  ⟨some 29, .ld none [] (.o 28), (some (27, false)), true, false, [28]⟩,
  ⟨some 30, .len (.o 29), (some (27, false)), true, false, [29]⟩,
  ⟨some 31, .bin .gtr (.o 30) (.c (.int .i64 40)), (some (27, false)), true, false, [30]⟩,
  ⟨some 32, .pick (.t 27) (.c (.bool true)) (.t 31), none, false, false, [27, 31]⟩])
 (.cond (.t 32)
  (.seq (.ops 2 false [⟨some 2, .mv (.c (.bool false)), none, false, false, []⟩])
  (.ret))
  (.skip)))
 (.seq (.seq (.ops 3 false [⟨some 3, .mv (.c (.int .i64 0)), none, false, false, []⟩])
 (.block 0 (.loop [1, 3] (.seq (.seq (.ops 4 false [⟨some 33, .mv (.t 3), none, false, false, []⟩,
    ⟨some 34, .fa 6 (.t 1), none, false, false, []⟩,
    ⟨some 35, .ld none [] (.t 34), none, false, false, [34]⟩,
    ⟨some 36, .len (.t 35), none, false, false, [35]⟩,
    ⟨some 37, .bin .lss (.t 33) (.t 36), none, false, false, [33, 36]⟩])
   (.cond (.t 37)
    (.skip)
    (.exit 0)))
   (.seq (.block 1 (.seq (.ops 6 false [⟨some 40, .fa 6 (.t 1), none, false, false, []⟩,
     ⟨some 41, .ld none [] (.t 40), none, false, false, [40]⟩,
     ⟨some 42, .mv (.t 3), none, false, false, []⟩,
     ⟨some 43, .ia 7 [.int .i64 0, .int .i64 0, .int .i64 0, .int .i64 0, .int .i64 0, .int .i64 0, .view []] (.t 41) (.t 42), none, false, false, [41, 42]⟩,
     ⟨some 44, .fa 6 (.t 43), none, false, false, [43]⟩,
     ⟨some 45, .ld none [.int .i64 0, .int .i64 0, .int .i64 0, .int .i64 0, .int .i64 0, .int .i64 0, .view []] (.t 44), none, false, false, [44]⟩,
     ⟨some 46, .len (.t 45), none, false, false, [45]⟩,
     ⟨some 47, .bin .gtr (.t 46) (.c (.int .i64 40)), none, false, false, [46]⟩])
    (.cond (.t 47)
     (.seq (.ops 7 false [⟨some 2, .mv (.c (.bool false)), none, false, false, []⟩])
     (.ret))
     (.skip))))
   (.ops 5 false [⟨some 38, .mv (.t 3), none, false, false, [3]⟩,
    ⟨some 39, .bin .add (.t 38) (.c (.int .i64 1)), none, false, false, [38]⟩,
    ⟨some 3, .mv (.t 39), none, false, false, [39]⟩]))))))
 (.seq (.seq (.ops 8 false [⟨some 4, .mv (.c (.int .i64 0)), none, false, false, []⟩])
 (.block 2 (.loop [1, 4] (.seq (.seq (.ops 9 false [⟨some 48, .mv (.t 4), none, false, false, []⟩,
    ⟨some 49, .fa 7 (.t 1), none, false, false, []⟩,
    ⟨some 50, .ld none [] (.t 49), none, false, false, [49]⟩,
    ⟨some 51, .len (.t 50), none, false, false, [50]⟩,
    ⟨some 52, .bin .lss (.t 48) (.t 51), none, false, false, [48, 51]⟩])
   (.cond (.t 52)
    (.skip)
    (.exit 2)))
   (.seq (.block 3 (.seq (.ops 11 false [⟨some 55, .fa 7 (.t 1), none, false, false, []⟩,
     ⟨some 56, .ld none [] (.t 55), none, false, false, [55]⟩,
     ⟨some 57, .mv (.t 4), none, false, false, []⟩,
     ⟨some 58, .ia 3 [.int .i64 0, .int .i64 0, .view []] (.t 56) (.t 57), none, false, false, [56, 57]⟩,
     ⟨some 59, .fa 2 (.t 58), none, false, false, [58]⟩,
     ⟨some 60, .ld none [.int .i64 0, .int .i64 0, .view []] (.t 59), none, false, false, [59]⟩,
     ⟨some 61, .len (.t 60), none, false, false, [60]⟩,
     ⟨some 62, .bin .gtr (.t 61) (.c (.int .i64 70)), none, false, false, [61]⟩])
    (.cond (.t 62)
     (.seq (.ops 12 false [⟨some 2, .mv (.c (.bool false)), none, false, false, []⟩])
     (.ret))
     (.skip))))
   (.ops 10 false [⟨some 53, .mv (.t 4), none, false, false, [4]⟩,
    ⟨some 54, .bin .add (.t 53) (.c (.int .i64 1)), none, false, false, [53]⟩,
    ⟨some 4, .mv (.t 54), none, false, false, [54]⟩]))))))
 (.seq (.ops 13 false [⟨some 2, .mv (.c (.bool true)), none, false, false, []⟩])
 (.ret)))))
def rs_r30_Few : List IRes := [.t 2]
theorem ok_r30_Few : fnOk Tryz.prog 5 ic_r30_Few rs_r30_Few 63 = true := by kernel_rfl

/-- tallyman/tallymanref30.Same -/
def ic_r30_Same : ICode :=
 .seq (.ops 0 false [⟨some 2, .box (.t 0), none, false, false, [0]⟩,
  ⟨some 3, .box (.t 1), none, false, false, [1]⟩,
  ⟨some 4, .mv (.c (.bool false)), none, false, false, [4]⟩])
 (.seq (.seq (.ops 1 false [⟨some 6, .fa 0 (.t 2), none, false, false, []⟩,
  ⟨some 7, .ld none [] (.t 6), none, false, false, [6]⟩,
  ⟨some 8, .fa 0 (.t 3), none, false, false, []⟩,
  ⟨some 9, .ld none [] (.t 8), none, false, false, [8]⟩,
  ⟨some 10, .bin .neq (.t 7) (.t 9), none, false, false, [7, 9]⟩,
  ⟨some 11, .mv (.t 10), none, false, false, [10]⟩,
  ⟨some 12, .fa 1 (.t 2), (some (11, false)), true, false, []⟩,
  ⟨some 13, .ld none [] (.o 12), (some (11, false)), true, false, [12]⟩,
  ⟨some 14, .fa 1 (.t 3), (some (11, false)), true, false, []⟩,
  ⟨some 15, .ld none [] (.o 14), (some (11, false)), true, false, [14]⟩,
  ⟨some 16, .bin .neq (.o 13) (.o 15), (some (11, false)), true, false, [13, 15]⟩,
  ⟨some 17, .pick (.t 11) (.c (.bool true)) (.t 16), none, false, false, [11, 16]⟩,
  ⟨some 18, .mv (.t 17), none, false, false, [17]⟩,
  ⟨some 19, .fa 2 (.t 2), (some (18, false)), true, false, []⟩,
  ⟨some 20, .ld none [] (.o 19), (some (18, false)), true, false, [19]⟩,
  ⟨some 21, .fa 2 (.t 3), (some (18, false)), true, false, []⟩,
  ⟨some 22, .ld none [] (.o 21), (some (18, false)), true, false, [21]⟩,
  ⟨some 23, .bin .neq (.o 20) (.o 22), (some (18, false)), true, false, [20, 22]⟩,
  ⟨some 24, .pick (.t 18) (.c (.bool true)) (.t 23), none, false, false, [18, 23]⟩,
  ⟨some 25, .mv (.t 24), none, false, false, [24]⟩,
  ⟨some 26, .fa 3 (.t 2), (some (25, false)), true, false, []⟩,
  ⟨some 27, .ld none [] (.o 26), (some (25, false)), true, false, [26]⟩,
  ⟨some 28, .len (.o 27), (some (25, false)), true, false, [27]⟩,
  ⟨some 29, .fa 3 (.t 3), (some (25, false)), true, false, []⟩,
  ⟨some 30, .ld none [] (.o 29), (some (25, false)), true, false, [29]⟩,
  ⟨some 31, .len (.o 30), (some (25, false)), true, false, [30]⟩,
  ⟨some 32, .bin .neq (.o 28) (.o 31), (some (25, false)), true, false, [28, 31]⟩,
  ⟨some 33, .pick (.t 25) (.c (.bool true)) (.t 32), none, false, false, [25, 32]⟩])
 (.cond (.t 33)
  (.seq (.ops 2 false [⟨some 4, .mv (.c (.bool false)), none, false, false, []⟩])
  (.ret))
  (.skip)))
 (.seq (.seq (.ops 3 false [⟨some 5, .mv (.c (.int .i64 0)), none, false, false, []⟩])
 (.block 0 (.loop [2, 3, 5] (.seq (.seq (.ops 4 false [⟨some 34, .mv (.t 5), none, false, false, []⟩,
    ⟨some 35, .fa 3 (.t 2), none, false, false, []⟩,
    ⟨some 36, .ld none [] (.t 35), none, false, false, [35]⟩,
    ⟨some 37, .len (.t 36), none, false, false, [36]⟩,
    ⟨some 38, .bin .lss (.t 34) (.t 37), none, false, false, [34, 37]⟩])
   (.cond (.t 38)
    (.skip)
    (.exit 0)))
   (.seq (.block 1 (.seq (.ops 6 true [⟨some 41, .fa 3 (.t 2), none, false, false, []⟩,
     ⟨some 42, .ld none [] (.t 41), none, false, false, [41]⟩,
     ⟨some 43, .mv (.t 5), none, false, false, []⟩,
     ⟨some 44, .ia 14 [.int .i64 0, .int .i64 0, .int .u64 0, .int .u64 0, .int .i64 0, .int .i64 0, .int .i64 0, .int .i64 0, .view [], .int .i64 0, .int .i64 0, .int .i64 0, .int .i64 0, .view []] (.t 42) (.t 43), none, false, false, [42, 43]⟩,
     ⟨some 45, .ld (some 14) [.int .i64 0, .int .i64 0, .int .u64 0, .int .u64 0, .int .i64 0, .int .i64 0, .int .i64 0, .int .i64 0, .view [], .int .i64 0, .int .i64 0, .int .i64 0, .int .i64 0, .view []] (.t 44), none, false, false, [44]⟩,
     ⟨some 46, .fa 3 (.t 3), none, false, false, []⟩,
     ⟨some 47, .ld none [] (.t 46), none, false, false, [46]⟩,
     ⟨some 48, .mv (.t 5), none, false, false, []⟩,
     ⟨some 49, .ia 14 [.int .i64 0, .int .i64 0, .int .u64 0, .int .u64 0, .int .i64 0, .int .i64 0, .int .i64 0, .int .i64 0, .view [], .int .i64 0, .int .i64 0, .int .i64 0, .int .i64 0, .view []] (.t 47) (.t 48), none, false, false, [47, 48]⟩,
     ⟨some 50, .ld (some 14) [.int .i64 0, .int .i64 0, .int .u64 0, .int .u64 0, .int .i64 0, .int .i64 0, .int .i64 0, .int .i64 0, .view [], .int .i64 0, .int .i64 0, .int .i64 0, .int .i64 0, .view []] (.t 49), none, false, false, [49]⟩,
     ⟨some 51, .call (.c (.fn 46 [] [])) [.t 45, .t 50], none, false, false, [45, 50]⟩,
     ⟨some 52, .not (.t 51), none, false, false, [51]⟩])
    (.cond (.t 52)
     (.seq (.ops 7 false [⟨some 4, .mv (.c (.bool false)), none, false, false, []⟩])
     (.ret))
     (.skip))))
   (.ops 5 false [⟨some 39, .mv (.t 5), none, false, false, [5]⟩,
    ⟨some 40, .bin .add (.t 39) (.c (.int .i64 1)), none, false, false, [39]⟩,
    ⟨some 5, .mv (.t 40), none, false, false, [40]⟩]))))))
 (.seq (.ops 8 false [⟨some 53, .fa 4 (.t 2), none, false, false, []⟩,
  ⟨some 54, .ld none [] (.t 53), none, false, false, [53]⟩,
  ⟨some 55, .fa 4 (.t 3), none, false, false, []⟩,
  ⟨some 56, .ld none [] (.t 55), none, false, false, [55]⟩,
  ⟨some 57, .call (.c (.fn 47 [] [])) [.t 54, .t 56], none, false, false, [54, 56]⟩,
  ⟨some 58, .mv (.t 57), none, false, false, [57]⟩,
  ⟨some 59, .fa 5 (.t 2), (some (58, true)), true, false, []⟩,
  ⟨some 60, .ld none [] (.o 59), (some (58, true)), true, false, [59]⟩,
  ⟨some 61, .fa 5 (.t 3), (some (58, true)), true, false, []⟩,
  ⟨some 62, .ld none [] (.o 61), (some (58, true)), true, false, [61]⟩,
  ⟨some 63, .call (.c (.fn 47 [] [])) [.o 60, .o 62], (some (58, true)), true, false, [60, 62]⟩,
  ⟨some 64, .pick (.t 58) (.t 63) (.c (.bool false)), none, false, false, [58, 63]⟩,
  ⟨some 65, .mv (.t 64), none, false, false, [64]⟩,
  ⟨some 66, .fa 6 (.t 2), (some (65, true)), true, false, []⟩,
  ⟨some 67, .ld none [] (.o 66), (some (65, true)), true, false, [66]⟩,
  ⟨some 68, .fa 6 (.t 3), (some (65, true)), true, false, []⟩,
  ⟨some 69, .ld none [] (.o 68), (some (65, true)), true, false, [68]⟩,
  ⟨some 70, .call (.c (.fn 48 [] [])) [.o 67, .o 69], (some (65, true)), true, false, [67, 69]⟩,
  ⟨some 71, .pick (.t 65) (.t 70) (.c (.bool false)), none, false, false, [65, 70]⟩,
  ⟨some 72, .mv (.t 71), none, false, false, [71]⟩,
  ⟨some 73, .fa 7 (.t 2), (some (72, true)), true, false, [2]⟩,
  ⟨some 74, .ld none [] (.o 73), (some (72, true)), true, false, [73]⟩,
  ⟨some 75, .fa 7 (.t 3), (some (72, true)), true, false, [3]⟩,
  ⟨some 76, .ld none [] (.o 75), (some (72, true)), true, false, [75]⟩,
  ⟨some 77, .call (.c (.fn 49 [] [])) [.o 74, .o 76], (some (72, true)), true, false, [74, 76]⟩,
  ⟨some 78, .pick (.t 72) (.t 77) (.c (.bool false)), none, false, false, [72, 77]⟩,
  ⟨some 4, .mv (.t 78), none, false, false, [78]⟩])
 (.ret))))
def rs_r30_Same : List IRes := [.t 4]
theorem ok_r30_Same : fnOk Tryz.prog 13 ic_r30_Same rs_r30_Same 79 = true := by kernel_rfl

/-- tallyman/tallymanref30.SameTask -/
def ic_r30_SameTask : ICode :=
 .seq (.ops 0 false [⟨some 2, .box (.t 0), none, false, false, [0]⟩,
  ⟨some 3, .box (.t 1), none, false, false, [1]⟩,
  ⟨some 4, .mv (.c (.bool false)), none, false, false, [4]⟩])
 (.seq (.ops 1 false [⟨some 5, .fa 0 (.t 2), none, false, false, []⟩,
  ⟨some 6, .ld (some 9) [] (.t 5), none, false, false, [5]⟩,
  ⟨some 7, .fa 0 (.t 3), none, false, false, []⟩,
  ⟨some 8, .ld (some 9) [] (.t 7), none, false, false, [7]⟩,
  ⟨some 9, .call (.c (.fn 77 [] [])) [.t 6, .t 8], none, false, false, [6, 8]⟩,
  ⟨some 10, .mv (.t 9), none, false, false, [9]⟩,
  ⟨some 11, .fa 9 (.t 2), (some (10, true)), true, false, []⟩,
  ⟨some 12, .ld none [] (.o 11), (some (10, true)), true, false, [11]⟩,
  ⟨some 13, .fa 9 (.t 3), (some (10, true)), true, false, []⟩,
  ⟨some 14, .ld none [] (.o 13), (some (10, true)), true, false, [13]⟩,
  ⟨some 15, .bin .eql (.o 12) (.o 14), (some (10, true)), true, false, [12, 14]⟩,
  ⟨some 16, .pick (.t 10) (.t 15) (.c (.bool false)), none, false, false, [10, 15]⟩,
  ⟨some 17, .mv (.t 16), none, false, false, [16]⟩,
  ⟨some 18, .fa 10 (.t 2), (some (17, true)), true, false, []⟩,
  ⟨some 19, .ld none [] (.o 18), (some (17, true)), true, false, [18]⟩,
  ⟨some 20, .fa 10 (.t 3), (some (17, true)), true, false, []⟩,
  ⟨some 21, .ld none [] (.o 20), (some (17, true)), true, false, [20]⟩,
  ⟨some 22, .bin .eql (.o 19) (.o 21), (some (17, true)), true, false, [19, 21]⟩,
  ⟨some 23, .pick (.t 17) (.t 22) (.c (.bool false)), none, false, false, [17, 22]⟩,
  ⟨some 24, .mv (.t 23), none, false, false, [23]⟩,
  ⟨some 25, .fa 11 (.t 2), (some (24, true)), true, false, []⟩,
  ⟨some 26, .ld none [] (.o 25), (some (24, true)), true, false, [25]⟩,
  ⟨some 27, .fa 11 (.t 3), (some (24, true)), true, false, []⟩,
  ⟨some 28, .ld none [] (.o 27), (some (24, true)), true, false, [27]⟩,
  ⟨some 29, .bin .eql (.o 26) (.o 28), (some (24, true)), true, false, [26, 28]⟩,
  ⟨some 30, .pick (.t 24) (.t 29) (.c (.bool false)), none, false, false, [24, 29]⟩,
  ⟨some 31, .mv (.t 30), none, false, false, [30]⟩,
  ⟨some 32, .fa 12 (.t 2), (some (31, true)), true, false, []⟩,
  ⟨some 33, .ld none [] (.o 32), (some (31, true)), true, false, [32]⟩,
  ⟨some 34, .fa 12 (.t 3), (some (31, true)), true, false, []⟩,
  ⟨some 35, .ld none [] (.o 34), (some (31, true)), true, false, [34]⟩,
  ⟨some 36, .bin .eql (.o 33) (.o 35), (some (31, true)), true, false, [33, 35]⟩,
  ⟨some 37, .pick (.t 31) (.t 36) (.c (.bool false)), none, false, false, [31, 36]⟩,
  ⟨some 38, .mv (.t 37), none, false, false, [37]⟩,
  ⟨some 39, .fa 13 (.t 2), (some (38, true)), true, false, [2]⟩,
  ⟨some 40, .ld none [] (.o 39), (some (38, true)), true, false, [39]⟩,
  ⟨some 41, .fa 13 (.t 3), (some (38, true)), true, false, [3]⟩,
  ⟨some 42, .ld none [] (.o 41), (some (38, true)), true, false, [41]⟩,
  ⟨some 43, .call (.c (.fn 78 [] [])) [.o 40, .o 42], (some (38, true)), true, false, [40, 42]⟩,
  ⟨some 44, .pick (.t 38) (.t 43) (.c (.bool false)), none, false, false, [38, 43]⟩,
  ⟨some 4, .mv (.t 44), none, false, false, [44]⟩])
 (.ret))
def rs_r30_SameTask : List IRes := [.t 4]
theorem ok_r30_SameTask : fnOk Tryz.prog 46 ic_r30_SameTask rs_r30_SameTask 45 = true := by kernel_rfl

/-- tallyman/task.Rules -/
def ic_task_Rules : ICode :=
 .seq (.ops 0 false [⟨some 1, .box (.t 0), none, false, false, [0]⟩,
  ⟨some 2, .mv (.c (.int .i64 0)), none, false, false, [2]⟩])
 (.seq (.block 0 (.seq (.ops 1 false [⟨some 4, .fa 0 (.t 1), none, false, false, []⟩,
   ⟨some 5, .ld none [] (.t 4), none, false, false, [4]⟩,
   ⟨some 6, .build [.int .i64 0, .int .i64 0, .int .i64 0] [(0, 1, .t 5), (1, 1, .c (.int .i64 1)), (2, 1, .c (.int .i64 64))], none, false, false, [5]⟩,
   ⟨some 7, .fa 1 (.t 1), none, false, false, []⟩,
   ⟨some 8, .ld none [] (.t 7), none, false, false, [7]⟩,
   ⟨some 9, .build [.int .i64 0, .int .i64 0, .int .i64 0] [(0, 1, .t 8), (1, 1, .c (.int .i64 1)), (2, 1, .c (.int .i64 16))], none, false, false, [8]⟩,
   ⟨some 10, .fa 2 (.t 1), none, false, false, []⟩,
   ⟨some 11, .ld none [] (.t 10), none, false, false, [10]⟩,
   ⟨some 12, .build [.int .i64 0, .int .i64 0, .int .i64 0] [(0, 1, .t 11), (1, 1, .c (.int .i64 1)), (2, 1, .c (.int .i64 16))], none, false, false, [11]⟩,
   ⟨some 13, .rowView 3 [.t 6, .t 9, .t 12], none, false, false, [6, 9, 12]⟩,
   ⟨some 14, .call (.c (.fn 91 [] [])) [.t 13], none, false, false, [13]⟩,
   ⟨some 15, .not (.t 14), none, false, false, [14]⟩,
   ⟨some 3, .mv (.t 15), none, false, false, [15]⟩])
  (.cond (.t 3)
   (.seq (.ops 2 false [⟨some 2, .mv (.c (.int .i64 2)), none, false, false, []⟩])
   (.ret))
   (.seq (.ops 3 false [⟨some 17, .fa 3 (.t 1), none, false, false, []⟩,
    ⟨some 18, .ld none [] (.t 17), none, false, false, [17]⟩,
    ⟨some 19, .build [.int .i64 0, .int .i64 0, .int .i64 0] [(0, 1, .t 18), (1, 1, .c (.int .i64 1)), (2, 1, .c (.int .i64 1000))], none, false, false, [18]⟩,
    ⟨some 20, .fa 4 (.t 1), none, false, false, []⟩,
    ⟨some 21, .ld none [] (.t 20), none, false, false, [20]⟩,
    ⟨some 22, .build [.int .i64 0, .int .i64 0, .int .i64 0] [(0, 1, .t 21), (1, 1, .c (.int .i64 1)), (2, 1, .c (.int .i64 64))], none, false, false, [21]⟩,
    ⟨some 23, .fa 5 (.t 1), none, false, false, []⟩,
    ⟨some 24, .ld none [] (.t 23), none, false, false, [23]⟩,
    ⟨some 25, .build [.int .i64 0, .int .i64 0, .int .i64 0] [(0, 1, .t 24), (1, 1, .c (.int .i64 0)), (2, 1, .c (.int .i64 1048576))], none, false, false, [24]⟩,
    ⟨some 26, .fa 6 (.t 1), none, false, false, []⟩,
    ⟨some 27, .ld none [] (.t 26), none, false, false, [26]⟩,
    ⟨some 28, .build [.int .i64 0, .int .i64 0, .int .i64 0] [(0, 1, .t 27), (1, 1, .c (.int .i64 0)), (2, 1, .c (.int .i64 2147483647))], none, false, false, [27]⟩,
    ⟨some 29, .rowView 3 [.t 19, .t 22, .t 25, .t 28], none, false, false, [19, 22, 25, 28]⟩,
    ⟨some 30, .call (.c (.fn 91 [] [])) [.t 29], none, false, false, [29]⟩,
    ⟨some 31, .not (.t 30), none, false, false, [30]⟩,
    ⟨some 16, .mv (.t 31), none, false, false, [31]⟩])
   (.cond (.t 16)
    (.seq (.ops 4 false [⟨some 2, .mv (.c (.int .i64 2)), none, false, false, []⟩])
    (.ret))
    (.seq (.ops 5 false [⟨some 33, .fa 7 (.t 1), none, false, false, [1]⟩,
     ⟨some 34, .ld none [] (.t 33), none, false, false, [33]⟩,
     ⟨some 35, .call (.c (.fn 92 [] [])) [.t 34], none, false, false, [34]⟩,
     ⟨some 36, .not (.t 35), none, false, false, [35]⟩,
     ⟨some 32, .mv (.t 36), none, false, false, [36]⟩])
    (.cond (.t 32)
     (.seq (.ops 6 false [⟨some 2, .mv (.c (.int .i64 1)), none, false, false, []⟩])
     (.ret))
     (.skip))))))))
 (.seq (.ops 7 false [⟨some 2, .mv (.c (.int .i64 0)), none, false, false, []⟩])
 (.ret)))
def rs_task_Rules : List IRes := [.t 2]
theorem ok_task_Rules : fnOk Tryz.prog 54 ic_task_Rules rs_task_Rules 37 = true := by kernel_rfl

end Go.Proofs.YtnckibgcjgeekaaGreat.Sx
