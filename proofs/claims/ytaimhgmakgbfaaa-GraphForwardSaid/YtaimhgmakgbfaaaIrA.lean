/- Functions of the seat in the small language. No conditions: a kit of our own. -/
import Derived.Test.YtaimhgmakgbfaaaProg
import Derived.Test.YtaimhgmakgbfaaaSx17
namespace Go.Proofs.Ytaimhgmakgbfaaa.Sx
open Go Go.RowKit
set_option linter.unusedVariables false

/-- slices.Contains(()int,int) -/
def ic_slices_Contains_int_int : ICode :=
 .seq (.ops 0 false [⟨some 4, .mv (.c (.bool false)), none, false, false, [4]⟩])
 (.seq (.ops 1 false [⟨some 5, .mv (.t 0), none, false, false, [0]⟩,
  ⟨some 6, .mv (.t 1), none, false, false, [1]⟩,
  ⟨some 7, .call (.c (.fn 146 [] [])) [.t 5, .t 6], none, false, false, [5, 6]⟩,
  ⟨some 8, .bin .geq (.t 7) (.c (.int .i64 0)), none, false, false, [7]⟩,
  ⟨some 4, .mv (.t 8), none, false, false, [8]⟩])
 (.ret))
def rs_slices_Contains_int_int : List IRes := [.t 4]
theorem ok_slices_Contains_int_int : fnOk Try.prog 82 ic_slices_Contains_int_int rs_slices_Contains_int_int 9 = true := by kernel_rfl

/-- slices.Index(()int,int) -/
def ic_slices_Index_int_int : ICode :=
 .seq (.ops 0 false [⟨some 4, .mv (.c (.int .i64 0)), none, false, false, [4]⟩])
 (.seq (.seq (.ops 1 false [⟨some 6, .mv (.t 0), none, false, false, []⟩,
  ⟨some 7, .len (.t 6), none, false, false, [6]⟩,
  ⟨some 8, .mv (.c (.int .i64 0)), none, false, false, []⟩])
 (.block 0 (.loop [0, 1, 7, 8] (.seq (.ops 2 false [⟨some 9, .bin .lss (.t 8) (.t 7), none, false, false, []⟩])
   (.seq (.cond (.t 9)
    (.skip)
    (.exit 0))
   (.seq (.block 1 (.seq (.ops 3 false [⟨some 10, .mv (.t 8), none, false, false, []⟩,
     ⟨some 5, .mv (.t 10), none, false, false, [10]⟩])
    (.seq (.ops 4 false [⟨some 11, .mv (.t 1), none, false, false, []⟩,
     ⟨some 12, .mv (.t 0), none, false, false, []⟩,
     ⟨some 13, .mv (.t 5), none, false, false, []⟩,
     ⟨some 14, .ia 1 [.int .i64 0] (.t 12) (.t 13), none, false, false, [12, 13]⟩,
     ⟨some 15, .ld none [.int .i64 0] (.t 14), none, false, false, [14]⟩,
     ⟨some 16, .bin .eql (.t 11) (.t 15), none, false, false, [11, 15]⟩])
    (.cond (.t 16)
     (.seq (.ops 5 false [⟨some 17, .mv (.t 5), none, false, false, [5]⟩,
      ⟨some 4, .mv (.t 17), none, false, false, [17]⟩])
     (.ret))
     (.skip)))))
   (.ops 6 false [⟨some 18, .bin .add (.t 8) (.c (.int .i64 1)), none, false, false, [8]⟩,
    ⟨some 8, .mv (.t 18), none, false, false, [18]⟩])))))))
 (.seq (.ops 7 false [⟨some 4, .mv (.c (.int .i64 (-1))), none, false, false, []⟩])
 (.ret)))
def rs_slices_Index_int_int : List IRes := [.t 4]
theorem ok_slices_Index_int_int : fnOk Try.prog 146 ic_slices_Index_int_int rs_slices_Index_int_int 19 = true := by kernel_rfl

def rs_cmd_Check : List IRes := [.t 2]
/-- tallyman/cmd.shapes -/
def ic_cmd_shapes : ICode :=
 .seq (.ops 0 false [⟨some 2, .alloc [.int .i64 0, .int .u64 0, .bool false], none, false, false, []⟩,
  ⟨some 3, .mv (.c (.bool false)), none, false, false, [3]⟩])
 (.seq (.seq (.ops 1 false [⟨some 4, .mv (.t 0), none, false, false, [0]⟩])
 (.block 0 (.seq (.ops 2 false [⟨some 6, .bin .eql (.t 4) (.c (.int .i64 1)), none, false, false, []⟩,
   ⟨some 5, .mv (.t 6), none, false, false, [6]⟩])
  (.cond (.t 5)
   (.seq (.ops 3 false [⟨some 7, .build [.int .i64 0, .int .u64 0, .bool false] [(2, 1, .c (.bool true))], none, false, false, []⟩,
    ⟨none, .st 3 (.t 2) (.t 7), none, false, false, [7]⟩,
    ⟨some 3, .mv (.c (.bool true)), none, false, false, []⟩])
   (.ret))
   (.seq (.seq (.ops 4 false [⟨some 9, .bin .eql (.t 4) (.c (.int .i64 3)), none, false, false, []⟩,
    ⟨some 8, .mv (.t 9), none, false, false, [9]⟩])
   (.cond (.t 8)
    (.skip)
    (.ops 5 false [⟨some 10, .bin .eql (.t 4) (.c (.int .i64 4)), none, false, false, []⟩,
     ⟨some 8, .mv (.t 10), none, false, false, [10]⟩])))
   (.cond (.t 8)
    (.seq (.ops 6 false [⟨some 11, .build [.int .i64 0, .int .u64 0, .bool false] [(0, 1, .c (.int .i64 999)), (1, 1, .c (.int .u64 18446744073709551615))], none, false, false, []⟩,
     ⟨none, .st 3 (.t 2) (.t 11), none, false, false, [11]⟩,
     ⟨some 3, .mv (.c (.bool true)), none, false, false, []⟩])
    (.ret))
    (.seq (.seq (.ops 7 false [⟨some 13, .bin .eql (.t 4) (.c (.int .i64 2)), none, false, false, []⟩,
     ⟨some 12, .mv (.t 13), none, false, false, [13]⟩])
    (.cond (.t 12)
     (.skip)
     (.seq (.ops 8 false [⟨some 14, .bin .eql (.t 4) (.c (.int .i64 5)), none, false, false, []⟩,
      ⟨some 12, .mv (.t 14), none, false, false, [14]⟩])
     (.cond (.t 12)
      (.skip)
      (.seq (.ops 9 false [⟨some 15, .bin .eql (.t 4) (.c (.int .i64 6)), none, false, false, []⟩,
       ⟨some 12, .mv (.t 15), none, false, false, [15]⟩])
      (.cond (.t 12)
       (.skip)
       (.seq (.ops 10 false [⟨some 16, .bin .eql (.t 4) (.c (.int .i64 7)), none, false, false, []⟩,
        ⟨some 12, .mv (.t 16), none, false, false, [16]⟩])
       (.cond (.t 12)
        (.skip)
        (.seq (.ops 11 false [⟨some 17, .bin .eql (.t 4) (.c (.int .i64 8)), none, false, false, []⟩,
         ⟨some 12, .mv (.t 17), none, false, false, [17]⟩])
        (.cond (.t 12)
         (.skip)
         (.ops 12 false [⟨some 18, .bin .eql (.t 4) (.c (.int .i64 12)), none, false, false, []⟩,
          ⟨some 12, .mv (.t 18), none, false, false, [18]⟩])))))))))))
    (.cond (.t 12)
     (.seq (.ops 13 false [⟨some 19, .build [.int .i64 0, .int .u64 0, .bool false] [(0, 1, .c (.int .i64 999))], none, false, false, []⟩,
      ⟨none, .st 3 (.t 2) (.t 19), none, false, false, [19]⟩,
      ⟨some 3, .mv (.c (.bool true)), none, false, false, []⟩])
     (.ret))
     (.seq (.seq (.ops 14 false [⟨some 21, .bin .eql (.t 4) (.c (.int .i64 9)), none, false, false, []⟩,
      ⟨some 20, .mv (.t 21), none, false, false, [21]⟩])
     (.cond (.t 20)
      (.skip)
      (.ops 15 false [⟨some 22, .bin .eql (.t 4) (.c (.int .i64 10)), none, false, false, []⟩,
       ⟨some 20, .mv (.t 22), none, false, false, [22]⟩])))
     (.cond (.t 20)
      (.seq (.ops 16 false [⟨some 23, .build [.int .i64 0, .int .u64 0, .bool false] [(0, 1, .c (.int .i64 2147483647))], none, false, false, []⟩,
       ⟨none, .st 3 (.t 2) (.t 23), none, false, false, [23]⟩,
       ⟨some 3, .mv (.c (.bool true)), none, false, false, []⟩])
      (.ret))
      (.seq (.ops 17 false [⟨some 25, .bin .eql (.t 4) (.c (.int .i64 13)), none, false, false, []⟩,
       ⟨some 24, .mv (.t 25), none, false, false, [25]⟩])
      (.cond (.t 24)
       (.seq (.ops 18 false [⟨some 26, .build [.int .i64 0, .int .u64 0, .bool false] [(0, 1, .c (.int .i64 999)), (1, 1, .c (.int .u64 1))], none, false, false, []⟩,
        ⟨none, .st 3 (.t 2) (.t 26), none, false, false, [26]⟩,
        ⟨some 3, .mv (.c (.bool true)), none, false, false, []⟩])
       (.ret))
       (.seq (.seq (.ops 19 false [⟨some 28, .bin .eql (.t 4) (.c (.int .i64 11)), none, false, false, []⟩,
        ⟨some 27, .mv (.t 28), none, false, false, [28]⟩])
       (.cond (.t 27)
        (.skip)
        (.seq (.ops 20 false [⟨some 29, .bin .eql (.t 4) (.c (.int .i64 14)), none, false, false, []⟩,
         ⟨some 27, .mv (.t 29), none, false, false, [29]⟩])
        (.cond (.t 27)
         (.skip)
         (.ops 21 false [⟨some 30, .bin .eql (.t 4) (.c (.int .i64 15)), none, false, false, [4]⟩,
          ⟨some 27, .mv (.t 30), none, false, false, [30]⟩])))))
       (.cond (.t 27)
        (.seq (.ops 22 false [⟨some 31, .build [.int .i64 0, .int .u64 0, .bool false] [], none, false, false, []⟩,
         ⟨none, .st 3 (.t 2) (.t 31), none, false, false, [31]⟩,
         ⟨some 3, .mv (.c (.bool true)), none, false, false, []⟩])
        (.ret))
        (.skip)))))))))))))))
 (.seq (.ops 23 false [⟨some 32, .build [.int .i64 0, .int .u64 0, .bool false] [], none, false, false, []⟩,
  ⟨none, .st 3 (.t 2) (.t 32), none, false, false, [32]⟩,
  ⟨some 3, .mv (.c (.bool false)), none, false, false, []⟩])
 (.ret)))
def rs_cmd_shapes : List IRes := [.cell 2 (some 3), .t 3]
/-- tallyman/idset.Has -/
def ic_idset_Has : ICode :=
 .seq (.ops 0 false [⟨some 4, .mv (.c (.bool false)), none, false, false, [4]⟩])
 (.seq (.ops 1 false [⟨some 5, .mv (.t 0), none, false, false, [0]⟩,
  ⟨some 6, .mv (.t 1), none, false, false, [1]⟩,
  ⟨some 7, .call (.c (.fn 82 [] [])) [.t 5, .t 6], none, false, false, [5, 6]⟩,
  ⟨some 4, .mv (.t 7), none, false, false, [7]⟩])
 (.ret))
def rs_idset_Has : List IRes := [.t 4]
theorem ok_idset_Has : fnOk Try.prog 149 ic_idset_Has rs_idset_Has 8 = true := by kernel_rfl

/-- tallyman/idset.Right -/
def ic_idset_Right : ICode :=
 .seq (.ops 0 false [⟨some 2, .mv (.c (.bool false)), none, false, false, [2]⟩])
 (.back [0, 3] (.seq (.ops 1 false [⟨some 3, .mv (.c (.int .i64 1)), none, false, false, []⟩])
 (.label 0)) 0
  (.seq (.seq (.ops 2 false [⟨some 4, .mv (.t 3), none, false, false, []⟩,
   ⟨some 5, .mv (.t 0), none, false, false, []⟩,
   ⟨some 6, .len (.t 5), none, false, false, [5]⟩,
   ⟨some 7, .bin .geq (.t 4) (.t 6), none, false, false, [4, 6]⟩])
  (.cond (.t 7)
   (.seq (.ops 3 false [⟨some 2, .mv (.c (.bool true)), none, false, false, []⟩])
   (.ret))
   (.skip)))
  (.seq (.seq (.ops 4 true [⟨some 8, .mv (.t 0), none, false, false, []⟩,
   ⟨some 9, .mv (.t 3), none, false, false, []⟩,
   ⟨some 10, .bin .sub (.t 9) (.c (.int .i64 1)), none, false, false, [9]⟩,
   ⟨some 11, .ia 1 [.int .i64 0] (.t 8) (.t 10), none, false, false, [8, 10]⟩,
   ⟨some 12, .ld none [.int .i64 0] (.t 11), none, false, false, [11]⟩,
   ⟨some 13, .mv (.t 0), none, false, false, []⟩,
   ⟨some 14, .mv (.t 3), none, false, false, []⟩,
   ⟨some 15, .ia 1 [.int .i64 0] (.t 13) (.t 14), none, false, false, [13, 14]⟩,
   ⟨some 16, .ld none [.int .i64 0] (.t 15), none, false, false, [15]⟩,
   ⟨some 17, .bin .lss (.t 12) (.t 16), none, false, false, [12, 16]⟩])
  (.cond (.t 17)
   (.seq (.ops 5 false [⟨some 18, .mv (.t 3), none, false, false, [3]⟩,
    ⟨some 19, .bin .add (.t 18) (.c (.int .i64 1)), none, false, false, [18]⟩,
    ⟨some 3, .mv (.t 19), none, false, false, [19]⟩])
   (.goto 0))
   (.skip)))
  (.seq (.ops 6 false [⟨some 2, .mv (.c (.bool false)), none, false, false, []⟩])
  (.ret)))))
def rs_idset_Right : List IRes := [.t 2]
theorem ok_idset_Right : fnOk Try.prog 113 ic_idset_Right rs_idset_Right 20 = true := by kernel_rfl

/-- tallyman/tallymanref01.Ints -/
def ic_r01_Ints : ICode :=
 .seq (.ops 0 false [⟨some 4, .mv (.c (.bool false)), none, false, false, [4]⟩])
 (.seq (.seq (.ops 1 false [⟨some 6, .mv (.t 0), none, false, false, []⟩,
  ⟨some 7, .len (.t 6), none, false, false, [6]⟩,
  ⟨some 8, .mv (.t 1), none, false, false, []⟩,
  ⟨some 9, .len (.t 8), none, false, false, [8]⟩,
  ⟨some 10, .bin .neq (.t 7) (.t 9), none, false, false, [7, 9]⟩])
 (.cond (.t 10)
  (.seq (.ops 2 false [⟨some 4, .mv (.c (.bool false)), none, false, false, []⟩])
  (.ret))
  (.skip)))
 (.seq (.seq (.ops 3 false [⟨some 5, .mv (.c (.int .i64 0)), none, false, false, []⟩])
 (.block 0 (.loop [0, 1, 5] (.seq (.seq (.ops 4 false [⟨some 11, .mv (.t 5), none, false, false, []⟩,
    ⟨some 12, .mv (.t 0), none, false, false, []⟩,
    ⟨some 13, .len (.t 12), none, false, false, [12]⟩,
    ⟨some 14, .bin .lss (.t 11) (.t 13), none, false, false, [11, 13]⟩])
   (.cond (.t 14)
    (.skip)
    (.exit 0)))
   (.seq (.block 1 (.seq (.ops 6 true [⟨some 17, .mv (.t 0), none, false, false, []⟩,
     ⟨some 18, .mv (.t 5), none, false, false, []⟩,
     ⟨some 19, .ia 1 [.int .i64 0] (.t 17) (.t 18), none, false, false, [17, 18]⟩,
     ⟨some 20, .ld none [.int .i64 0] (.t 19), none, false, false, [19]⟩,
     ⟨some 21, .mv (.t 1), none, false, false, []⟩,
     ⟨some 22, .mv (.t 5), none, false, false, []⟩,
     ⟨some 23, .ia 1 [.int .i64 0] (.t 21) (.t 22), none, false, false, [21, 22]⟩,
     ⟨some 24, .ld none [.int .i64 0] (.t 23), none, false, false, [23]⟩,
     ⟨some 25, .bin .neq (.t 20) (.t 24), none, false, false, [20, 24]⟩])
    (.cond (.t 25)
     (.seq (.ops 7 false [⟨some 4, .mv (.c (.bool false)), none, false, false, []⟩])
     (.ret))
     (.skip))))
   (.ops 5 false [⟨some 15, .mv (.t 5), none, false, false, [5]⟩,
    ⟨some 16, .bin .add (.t 15) (.c (.int .i64 1)), none, false, false, [15]⟩,
    ⟨some 5, .mv (.t 16), none, false, false, [16]⟩]))))))
 (.seq (.ops 8 false [⟨some 4, .mv (.c (.bool true)), none, false, false, []⟩])
 (.ret))))
def rs_r01_Ints : List IRes := [.t 4]
theorem ok_r01_Ints : fnOk Try.prog 22 ic_r01_Ints rs_r01_Ints 26 = true := by kernel_rfl

/-- tallyman/tallymanref03.Small -/
def ic_r03_Small : ICode :=
 .seq (.ops 0 false [⟨some 2, .box (.t 0), none, false, false, [0]⟩,
  ⟨some 4, .mv (.c (.bool false)), none, false, false, [4]⟩])
 (.seq (.ops 1 false [⟨some 5, .fa 0 (.t 2), none, false, false, []⟩,
  ⟨some 6, .ld none [] (.t 5), none, false, false, [5]⟩,
  ⟨some 7, .mv (.t 1), none, false, false, []⟩,
  ⟨some 8, .neg (.t 7), none, false, false, [7]⟩,
  ⟨some 9, .bin .geq (.t 6) (.t 8), none, false, false, [6, 8]⟩,
  ⟨some 10, .mv (.t 9), none, false, false, [9]⟩,
  ⟨some 11, .fa 0 (.t 2), (some (10, true)), true, false, []⟩,
  ⟨some 12, .ld none [] (.o 11), (some (10, true)), true, false, [11]⟩,
  ⟨some 13, .mv (.t 1), (some (10, true)), true, false, []⟩,
  ⟨some 14, .bin .leq (.o 12) (.o 13), (some (10, true)), true, false, [12, 13]⟩,
  ⟨some 15, .pick (.t 10) (.t 14) (.c (.bool false)), none, false, false, [10, 14]⟩,
  ⟨some 16, .mv (.t 15), none, false, false, [15]⟩,
  ⟨some 17, .fa 1 (.t 2), (some (16, true)), true, false, []⟩,
  ⟨some 18, .ld none [] (.o 17), (some (16, true)), true, false, [17]⟩,
  ⟨some 19, .mv (.t 1), (some (16, true)), true, false, []⟩,
  ⟨some 20, .neg (.o 19), (some (16, true)), true, false, [19]⟩,
  ⟨some 21, .bin .geq (.o 18) (.o 20), (some (16, true)), true, false, [18, 20]⟩,
  ⟨some 22, .pick (.t 16) (.t 21) (.c (.bool false)), none, false, false, [16, 21]⟩,
  ⟨some 23, .mv (.t 22), none, false, false, [22]⟩,
  ⟨some 24, .fa 1 (.t 2), (some (23, true)), true, false, [2]⟩,
  ⟨some 25, .ld none [] (.o 24), (some (23, true)), true, false, [24]⟩,
  ⟨some 26, .mv (.t 1), (some (23, true)), true, false, [1]⟩,
  ⟨some 27, .bin .leq (.o 25) (.o 26), (some (23, true)), true, false, [25, 26]⟩,
  ⟨some 28, .pick (.t 23) (.t 27) (.c (.bool false)), none, false, false, [23, 27]⟩,
  ⟨some 4, .mv (.t 28), none, false, false, [28]⟩])
 (.ret))
def rs_r03_Small : List IRes := [.t 4]
theorem ok_r03_Small : fnOk Try.prog 105 ic_r03_Small rs_r03_Small 29 = true := by kernel_rfl

/-- tallyman/tallymanref16.In -/
def ic_r16_In : ICode :=
 .seq (.ops 0 false [⟨some 4, .mv (.c (.bool false)), none, false, false, [4]⟩])
 (.seq (.seq (.ops 1 false [⟨some 5, .mv (.c (.int .i64 0)), none, false, false, []⟩])
 (.block 0 (.loop [0, 1, 5] (.seq (.seq (.ops 2 false [⟨some 6, .mv (.t 5), none, false, false, []⟩,
    ⟨some 7, .mv (.t 0), none, false, false, []⟩,
    ⟨some 8, .len (.t 7), none, false, false, [7]⟩,
    ⟨some 9, .bin .lss (.t 6) (.t 8), none, false, false, [6, 8]⟩])
   (.cond (.t 9)
    (.skip)
    (.exit 0)))
   (.seq (.block 1 (.seq (.ops 4 false [⟨some 12, .mv (.t 0), none, false, false, []⟩,
     ⟨some 13, .mv (.t 5), none, false, false, []⟩,
     ⟨some 14, .ia 1 [.int .i64 0] (.t 12) (.t 13), none, false, false, [12, 13]⟩,
     ⟨some 15, .ld none [.int .i64 0] (.t 14), none, false, false, [14]⟩,
     ⟨some 16, .mv (.t 1), none, false, false, []⟩,
     ⟨some 17, .bin .eql (.t 15) (.t 16), none, false, false, [15, 16]⟩])
    (.cond (.t 17)
     (.seq (.ops 5 false [⟨some 4, .mv (.c (.bool true)), none, false, false, []⟩])
     (.ret))
     (.skip))))
   (.ops 3 false [⟨some 10, .mv (.t 5), none, false, false, [5]⟩,
    ⟨some 11, .bin .add (.t 10) (.c (.int .i64 1)), none, false, false, [10]⟩,
    ⟨some 5, .mv (.t 11), none, false, false, [11]⟩]))))))
 (.seq (.ops 6 false [⟨some 4, .mv (.c (.bool false)), none, false, false, []⟩])
 (.ret)))
def rs_r16_In : List IRes := [.t 4]
theorem ok_r16_In : fnOk Try.prog 77 ic_r16_In rs_r16_In 18 = true := by kernel_rfl

/-- tallyman/tallymanref17.Right -/
def ic_r17_Right : ICode :=
 .seq (.ops 0 false [⟨some 2, .mv (.c (.bool false)), none, false, false, [2]⟩])
 (.seq (.seq (.ops 1 false [⟨some 3, .mv (.c (.int .i64 1)), none, false, false, []⟩])
 (.block 0 (.loop [0, 3] (.seq (.seq (.ops 2 false [⟨some 4, .mv (.t 3), none, false, false, []⟩,
    ⟨some 5, .mv (.t 0), none, false, false, []⟩,
    ⟨some 6, .len (.t 5), none, false, false, [5]⟩,
    ⟨some 7, .bin .lss (.t 4) (.t 6), none, false, false, [4, 6]⟩])
   (.cond (.t 7)
    (.skip)
    (.exit 0)))
   (.seq (.block 1 (.seq (.ops 4 true [⟨some 10, .mv (.t 0), none, false, false, []⟩,
     ⟨some 11, .mv (.t 3), none, false, false, []⟩,
     ⟨some 12, .ia 1 [.int .i64 0] (.t 10) (.t 11), none, false, false, [10, 11]⟩,
     ⟨some 13, .ld none [.int .i64 0] (.t 12), none, false, false, [12]⟩,
     ⟨some 14, .mv (.t 0), none, false, false, []⟩,
     ⟨some 15, .mv (.t 3), none, false, false, []⟩,
     ⟨some 16, .bin .sub (.t 15) (.c (.int .i64 1)), none, false, false, [15]⟩,
     ⟨some 17, .ia 1 [.int .i64 0] (.t 14) (.t 16), none, false, false, [14, 16]⟩,
     ⟨some 18, .ld none [.int .i64 0] (.t 17), none, false, false, [17]⟩,
     ⟨some 19, .bin .leq (.t 13) (.t 18), none, false, false, [13, 18]⟩])
    (.cond (.t 19)
     (.seq (.ops 5 false [⟨some 2, .mv (.c (.bool false)), none, false, false, []⟩])
     (.ret))
     (.skip))))
   (.ops 3 false [⟨some 8, .mv (.t 3), none, false, false, [3]⟩,
    ⟨some 9, .bin .add (.t 8) (.c (.int .i64 1)), none, false, false, [8]⟩,
    ⟨some 3, .mv (.t 9), none, false, false, [9]⟩]))))))
 (.seq (.ops 6 false [⟨some 2, .mv (.c (.bool true)), none, false, false, []⟩])
 (.ret)))
def rs_r17_Right : List IRes := [.t 2]
theorem ok_r17_Right : fnOk Try.prog 150 ic_r17_Right rs_r17_Right 20 = true := by kernel_rfl

def rs_r22_Check : List IRes := [.t 2]
/-- tallyman/tallymanref22.Few -/
def ic_r22_Few : ICode :=
 .seq (.ops 0 false [⟨some 4, .mv (.c (.bool false)), none, false, false, [4]⟩])
 (.seq (.seq (.ops 1 false [⟨some 6, .mv (.t 0), none, false, false, []⟩,
  ⟨some 7, .len (.t 6), none, false, false, [6]⟩,
  ⟨some 8, .mv (.t 1), none, false, false, [1]⟩,
  ⟨some 9, .bin .gtr (.t 7) (.t 8), none, false, false, [7, 8]⟩])
 (.cond (.t 9)
  (.seq (.ops 2 false [⟨some 4, .mv (.c (.bool false)), none, false, false, []⟩])
  (.ret))
  (.skip)))
 (.seq (.seq (.ops 3 false [⟨some 5, .mv (.c (.int .i64 0)), none, false, false, []⟩])
 (.block 0 (.loop [0, 5] (.seq (.seq (.ops 4 false [⟨some 10, .mv (.t 5), none, false, false, []⟩,
    ⟨some 11, .mv (.t 0), none, false, false, []⟩,
    ⟨some 12, .len (.t 11), none, false, false, [11]⟩,
    ⟨some 13, .bin .lss (.t 10) (.t 12), none, false, false, [10, 12]⟩])
   (.cond (.t 13)
    (.skip)
    (.exit 0)))
   (.seq (.block 1 (.seq (.ops 6 false [⟨some 16, .mv (.t 0), none, false, false, []⟩,
     ⟨some 17, .mv (.t 5), none, false, false, []⟩,
     ⟨some 18, .ia 9 [.int .i64 0, .int .i64 0, .int .u64 0, .int .u64 0, .int .i64 0, .int .i64 0, .int .i64 0, .int .i64 0, .view []] (.t 16) (.t 17), none, false, false, [16, 17]⟩,
     ⟨some 19, .fa 8 (.t 18), none, false, false, [18]⟩,
     ⟨some 20, .ld none [.int .i64 0, .int .i64 0, .int .u64 0, .int .u64 0, .int .i64 0, .int .i64 0, .int .i64 0, .int .i64 0, .view []] (.t 19), none, false, false, [19]⟩,
     ⟨some 21, .len (.t 20), none, false, false, [20]⟩,
     ⟨some 22, .bin .gtr (.t 21) (.c (.int .i64 20)), none, false, false, [21]⟩])
    (.cond (.t 22)
     (.seq (.ops 7 false [⟨some 4, .mv (.c (.bool false)), none, false, false, []⟩])
     (.ret))
     (.skip))))
   (.ops 5 false [⟨some 14, .mv (.t 5), none, false, false, [5]⟩,
    ⟨some 15, .bin .add (.t 14) (.c (.int .i64 1)), none, false, false, [14]⟩,
    ⟨some 5, .mv (.t 15), none, false, false, [15]⟩]))))))
 (.seq (.ops 8 false [⟨some 4, .mv (.c (.bool true)), none, false, false, []⟩])
 (.ret))))
def rs_r22_Few : List IRes := [.t 4]
theorem ok_r22_Few : fnOk Try.prog 45 ic_r22_Few rs_r22_Few 23 = true := by kernel_rfl

/-- tallyman/tallymanref22.ID -/
def ic_r22_ID : ICode :=
 .seq (.ops 0 false [⟨some 2, .mv (.c (.bool false)), none, false, false, [2]⟩])
 (.seq (.ops 1 false [⟨some 3, .mv (.t 0), none, false, false, []⟩,
  ⟨some 4, .bin .geq (.t 3) (.c (.int .i64 1)), none, false, false, [3]⟩,
  ⟨some 5, .mv (.t 4), none, false, false, [4]⟩,
  ⟨some 6, .mv (.t 0), (some (5, true)), true, false, [0]⟩,
  ⟨some 7, .bin .leq (.o 6) (.c (.int .i64 999)), (some (5, true)), true, false, [6]⟩,
  ⟨some 8, .pick (.t 5) (.t 7) (.c (.bool false)), none, false, false, [5, 7]⟩,
  ⟨some 2, .mv (.t 8), none, false, false, [8]⟩])
 (.ret))
def rs_r22_ID : List IRes := [.t 2]
/-- tallyman/tallymanref22.Same -/
def ic_r22_Same : ICode :=
 .seq (.ops 0 false [⟨some 2, .box (.t 0), none, false, false, [0]⟩,
  ⟨some 3, .box (.t 1), none, false, false, [1]⟩,
  ⟨some 4, .mv (.c (.bool false)), none, false, false, [4]⟩])
 (.seq (.ops 1 false [⟨some 5, .fa 0 (.t 2), none, false, false, []⟩,
  ⟨some 6, .ld none [] (.t 5), none, false, false, [5]⟩,
  ⟨some 7, .fa 0 (.t 3), none, false, false, []⟩,
  ⟨some 8, .ld none [] (.t 7), none, false, false, [7]⟩,
  ⟨some 9, .bin .eql (.t 6) (.t 8), none, false, false, [6, 8]⟩,
  ⟨some 10, .mv (.t 9), none, false, false, [9]⟩,
  ⟨some 11, .fa 1 (.t 2), (some (10, true)), true, false, []⟩,
  ⟨some 12, .ld none [] (.o 11), (some (10, true)), true, false, [11]⟩,
  ⟨some 13, .fa 1 (.t 3), (some (10, true)), true, false, []⟩,
  ⟨some 14, .ld none [] (.o 13), (some (10, true)), true, false, [13]⟩,
  ⟨some 15, .bin .eql (.o 12) (.o 14), (some (10, true)), true, false, [12, 14]⟩,
  ⟨some 16, .pick (.t 10) (.t 15) (.c (.bool false)), none, false, false, [10, 15]⟩,
  ⟨some 17, .mv (.t 16), none, false, false, [16]⟩,
  ⟨some 18, .fa 2 (.t 2), (some (17, true)), true, false, []⟩,
  ⟨some 19, .ld none [] (.o 18), (some (17, true)), true, false, [18]⟩,
  ⟨some 20, .fa 2 (.t 3), (some (17, true)), true, false, []⟩,
  ⟨some 21, .ld none [] (.o 20), (some (17, true)), true, false, [20]⟩,
  ⟨some 22, .bin .eql (.o 19) (.o 21), (some (17, true)), true, false, [19, 21]⟩,
  ⟨some 23, .pick (.t 17) (.t 22) (.c (.bool false)), none, false, false, [17, 22]⟩,
  ⟨some 24, .mv (.t 23), none, false, false, [23]⟩,
  ⟨some 25, .fa 3 (.t 2), (some (24, true)), true, false, []⟩,
  ⟨some 26, .ld none [] (.o 25), (some (24, true)), true, false, [25]⟩,
  ⟨some 27, .fa 3 (.t 3), (some (24, true)), true, false, []⟩,
  ⟨some 28, .ld none [] (.o 27), (some (24, true)), true, false, [27]⟩,
  ⟨some 29, .bin .eql (.o 26) (.o 28), (some (24, true)), true, false, [26, 28]⟩,
  ⟨some 30, .pick (.t 24) (.t 29) (.c (.bool false)), none, false, false, [24, 29]⟩,
  ⟨some 31, .mv (.t 30), none, false, false, [30]⟩,
  ⟨some 32, .fa 4 (.t 2), (some (31, true)), true, false, []⟩,
  ⟨some 33, .ld (some 2) [] (.o 32), (some (31, true)), true, false, [32]⟩,
  ⟨some 34, .fa 4 (.t 3), (some (31, true)), true, false, []⟩,
  ⟨some 35, .ld (some 2) [] (.o 34), (some (31, true)), true, false, [34]⟩,
  ⟨some 36, .eqc false [false, false] (.o 33) (.o 35), (some (31, true)), true, false, [33, 35]⟩,
  ⟨some 37, .pick (.t 31) (.t 36) (.c (.bool false)), none, false, false, [31, 36]⟩,
  ⟨some 38, .mv (.t 37), none, false, false, [37]⟩,
  ⟨some 39, .fa 6 (.t 2), (some (38, true)), true, false, []⟩,
  ⟨some 40, .ld (some 2) [] (.o 39), (some (38, true)), true, false, [39]⟩,
  ⟨some 41, .fa 6 (.t 3), (some (38, true)), true, false, []⟩,
  ⟨some 42, .ld (some 2) [] (.o 41), (some (38, true)), true, false, [41]⟩,
  ⟨some 43, .eqc false [false, false] (.o 40) (.o 42), (some (38, true)), true, false, [40, 42]⟩,
  ⟨some 44, .pick (.t 38) (.t 43) (.c (.bool false)), none, false, false, [38, 43]⟩,
  ⟨some 45, .mv (.t 44), none, false, false, [44]⟩,
  ⟨some 46, .fa 8 (.t 2), (some (45, true)), true, false, [2]⟩,
  ⟨some 47, .ld none [] (.o 46), (some (45, true)), true, false, [46]⟩,
  ⟨some 48, .fa 8 (.t 3), (some (45, true)), true, false, [3]⟩,
  ⟨some 49, .ld none [] (.o 48), (some (45, true)), true, false, [48]⟩,
  ⟨some 50, .call (.c (.fn 22 [] [])) [.o 47, .o 49], (some (45, true)), true, false, [47, 49]⟩,
  ⟨some 51, .pick (.t 45) (.t 50) (.c (.bool false)), none, false, false, [45, 50]⟩,
  ⟨some 4, .mv (.t 51), none, false, false, [51]⟩])
 (.ret))
def rs_r22_Same : List IRes := [.t 4]
theorem ok_r22_Same : fnOk Try.prog 136 ic_r22_Same rs_r22_Same 52 = true := by kernel_rfl

/-- tallyman/tallymanref22.Specs -/
def ic_r22_Specs : ICode :=
 .seq (.ops 0 false [⟨some 4, .mv (.c (.bool false)), none, false, false, [4]⟩])
 (.seq (.seq (.ops 1 false [⟨some 6, .mv (.t 0), none, false, false, []⟩,
  ⟨some 7, .len (.t 6), none, false, false, [6]⟩,
  ⟨some 8, .mv (.t 1), none, false, false, []⟩,
  ⟨some 9, .len (.t 8), none, false, false, [8]⟩,
  ⟨some 10, .bin .neq (.t 7) (.t 9), none, false, false, [7, 9]⟩])
 (.cond (.t 10)
  (.seq (.ops 2 false [⟨some 4, .mv (.c (.bool false)), none, false, false, []⟩])
  (.ret))
  (.skip)))
 (.seq (.seq (.ops 3 false [⟨some 5, .mv (.c (.int .i64 0)), none, false, false, []⟩])
 (.block 0 (.loop [0, 1, 5] (.seq (.seq (.ops 4 false [⟨some 11, .mv (.t 5), none, false, false, []⟩,
    ⟨some 12, .mv (.t 0), none, false, false, []⟩,
    ⟨some 13, .len (.t 12), none, false, false, [12]⟩,
    ⟨some 14, .bin .lss (.t 11) (.t 13), none, false, false, [11, 13]⟩])
   (.cond (.t 14)
    (.skip)
    (.exit 0)))
   (.seq (.block 1 (.seq (.ops 6 true [⟨some 17, .mv (.t 0), none, false, false, []⟩,
     ⟨some 18, .mv (.t 5), none, false, false, []⟩,
     ⟨some 19, .ia 9 [.int .i64 0, .int .i64 0, .int .u64 0, .int .u64 0, .int .i64 0, .int .i64 0, .int .i64 0, .int .i64 0, .view []] (.t 17) (.t 18), none, false, false, [17, 18]⟩,
     ⟨some 20, .ld (some 9) [.int .i64 0, .int .i64 0, .int .u64 0, .int .u64 0, .int .i64 0, .int .i64 0, .int .i64 0, .int .i64 0, .view []] (.t 19), none, false, false, [19]⟩,
     ⟨some 21, .mv (.t 1), none, false, false, []⟩,
     ⟨some 22, .mv (.t 5), none, false, false, []⟩,
     ⟨some 23, .ia 9 [.int .i64 0, .int .i64 0, .int .u64 0, .int .u64 0, .int .i64 0, .int .i64 0, .int .i64 0, .int .i64 0, .view []] (.t 21) (.t 22), none, false, false, [21, 22]⟩,
     ⟨some 24, .ld (some 9) [.int .i64 0, .int .i64 0, .int .u64 0, .int .u64 0, .int .i64 0, .int .i64 0, .int .i64 0, .int .i64 0, .view []] (.t 23), none, false, false, [23]⟩,
     ⟨some 25, .call (.c (.fn 136 [] [])) [.t 20, .t 24], none, false, false, [20, 24]⟩,
     ⟨some 26, .not (.t 25), none, false, false, [25]⟩])
    (.cond (.t 26)
     (.seq (.ops 7 false [⟨some 4, .mv (.c (.bool false)), none, false, false, []⟩])
     (.ret))
     (.skip))))
   (.ops 5 false [⟨some 15, .mv (.t 5), none, false, false, [5]⟩,
    ⟨some 16, .bin .add (.t 15) (.c (.int .i64 1)), none, false, false, [15]⟩,
    ⟨some 5, .mv (.t 16), none, false, false, [16]⟩]))))))
 (.seq (.ops 8 false [⟨some 4, .mv (.c (.bool true)), none, false, false, []⟩])
 (.ret))))
def rs_r22_Specs : List IRes := [.t 4]
def rs_r28_Check : List IRes := [.t 2]
/-- tallyman/tallymanref28.Few -/
def ic_r28_Few : ICode :=
 .seq (.ops 0 false [⟨some 4, .mv (.c (.bool false)), none, false, false, [4]⟩])
 (.seq (.seq (.ops 1 false [⟨some 6, .mv (.t 0), none, false, false, []⟩,
  ⟨some 7, .len (.t 6), none, false, false, [6]⟩,
  ⟨some 8, .mv (.t 1), none, false, false, [1]⟩,
  ⟨some 9, .bin .gtr (.t 7) (.t 8), none, false, false, [7, 8]⟩])
 (.cond (.t 9)
  (.seq (.ops 2 false [⟨some 4, .mv (.c (.bool false)), none, false, false, []⟩])
  (.ret))
  (.skip)))
 (.seq (.seq (.ops 3 false [⟨some 5, .mv (.c (.int .i64 0)), none, false, false, []⟩])
 (.block 0 (.loop [0, 5] (.seq (.seq (.ops 4 false [⟨some 10, .mv (.t 5), none, false, false, []⟩,
    ⟨some 11, .mv (.t 0), none, false, false, []⟩,
    ⟨some 12, .len (.t 11), none, false, false, [11]⟩,
    ⟨some 13, .bin .lss (.t 10) (.t 12), none, false, false, [10, 12]⟩])
   (.cond (.t 13)
    (.skip)
    (.exit 0)))
   (.seq (.block 1 (.seq (.ops 6 false [⟨some 16, .mv (.t 0), none, false, false, []⟩,
     ⟨some 17, .mv (.t 5), none, false, false, []⟩,
     ⟨some 18, .ia 4 [.int .i64 0, .int .i64 0, .int .u64 0, .view []] (.t 16) (.t 17), none, false, false, [16, 17]⟩,
     ⟨some 19, .fa 3 (.t 18), none, false, false, [18]⟩,
     ⟨some 20, .ld none [.int .i64 0, .int .i64 0, .int .u64 0, .view []] (.t 19), none, false, false, [19]⟩,
     ⟨some 21, .call (.c (.fn 45 [] [])) [.t 20, .c (.int .i64 70)], none, false, false, [20]⟩,
     ⟨some 22, .not (.t 21), none, false, false, [21]⟩])
    (.cond (.t 22)
     (.seq (.ops 7 false [⟨some 4, .mv (.c (.bool false)), none, false, false, []⟩])
     (.ret))
     (.skip))))
   (.ops 5 false [⟨some 14, .mv (.t 5), none, false, false, [5]⟩,
    ⟨some 15, .bin .add (.t 14) (.c (.int .i64 1)), none, false, false, [14]⟩,
    ⟨some 5, .mv (.t 15), none, false, false, [15]⟩]))))))
 (.seq (.ops 8 false [⟨some 4, .mv (.c (.bool true)), none, false, false, []⟩])
 (.ret))))
def rs_r28_Few : List IRes := [.t 4]
/-- tallyman/tallymanref28.HasBits -/
def ic_r28_HasBits : ICode :=
 .seq (.ops 0 false [⟨some 2, .mv (.c (.bool false)), none, false, false, [2]⟩])
 (.seq (.ops 1 false [⟨some 3, .mv (.t 0), none, false, false, []⟩,
  ⟨some 4, .bin .eql (.t 3) (.c (.int .i64 3)), none, false, false, [3]⟩,
  ⟨some 5, .mv (.t 4), none, false, false, [4]⟩,
  ⟨some 6, .mv (.t 0), (some (5, false)), true, false, []⟩,
  ⟨some 7, .bin .eql (.o 6) (.c (.int .i64 4)), (some (5, false)), true, false, [6]⟩,
  ⟨some 8, .pick (.t 5) (.c (.bool true)) (.t 7), none, false, false, [5, 7]⟩,
  ⟨some 9, .mv (.t 8), none, false, false, [8]⟩,
  ⟨some 10, .mv (.t 0), (some (9, false)), true, false, [0]⟩,
  ⟨some 11, .bin .eql (.o 10) (.c (.int .i64 13)), (some (9, false)), true, false, [10]⟩,
  ⟨some 12, .pick (.t 9) (.c (.bool true)) (.t 11), none, false, false, [9, 11]⟩,
  ⟨some 2, .mv (.t 12), none, false, false, [12]⟩])
 (.ret))
def rs_r28_HasBits : List IRes := [.t 2]
/-- tallyman/tallymanref28.HasID -/
def ic_r28_HasID : ICode :=
 .seq (.ops 0 false [⟨some 2, .mv (.c (.bool false)), none, false, false, [2]⟩])
 (.seq (.ops 1 false [⟨some 3, .mv (.t 0), none, false, false, []⟩,
  ⟨some 4, .bin .eql (.t 3) (.c (.int .i64 2)), none, false, false, [3]⟩,
  ⟨some 5, .mv (.t 4), none, false, false, [4]⟩,
  ⟨some 6, .mv (.t 0), (some (5, false)), true, false, []⟩,
  ⟨some 7, .bin .geq (.o 6) (.c (.int .i64 3)), (some (5, false)), true, false, [6]⟩,
  ⟨some 8, .mv (.o 7), (some (5, false)), true, false, [7]⟩,
  ⟨some 9, .mv (.t 0), (some (8, true)), true, false, []⟩,
  ⟨some 10, .bin .leq (.o 9) (.c (.int .i64 10)), (some (8, true)), true, false, [9]⟩,
  ⟨some 11, .pick (.o 8) (.t 10) (.c (.bool false)), (some (5, false)), true, false, [8, 10]⟩,
  ⟨some 12, .pick (.t 5) (.c (.bool true)) (.t 11), none, false, false, [5, 11]⟩,
  ⟨some 13, .mv (.t 12), none, false, false, [12]⟩,
  ⟨some 14, .mv (.t 0), (some (13, false)), true, false, []⟩,
  ⟨some 15, .bin .eql (.o 14) (.c (.int .i64 12)), (some (13, false)), true, false, [14]⟩,
  ⟨some 16, .pick (.t 13) (.c (.bool true)) (.t 15), none, false, false, [13, 15]⟩,
  ⟨some 17, .mv (.t 16), none, false, false, [16]⟩,
  ⟨some 18, .mv (.t 0), (some (17, false)), true, false, [0]⟩,
  ⟨some 19, .bin .eql (.o 18) (.c (.int .i64 13)), (some (17, false)), true, false, [18]⟩,
  ⟨some 20, .pick (.t 17) (.c (.bool true)) (.t 19), none, false, false, [17, 19]⟩,
  ⟨some 2, .mv (.t 20), none, false, false, [20]⟩])
 (.ret))
def rs_r28_HasID : List IRes := [.t 2]
def rs_r28_Same : List IRes := [.t 4]
/-- tallyman/task.Check -/
def ic_task_Check : ICode :=
 .seq (.ops 0 false [⟨some 1, .box (.t 0), none, false, false, [0]⟩,
  ⟨some 2, .mv (.c (.int .i64 0)), none, false, false, [2]⟩])
 (.seq (.seq (.ops 1 true [⟨some 6, .fa 0 (.t 1), none, false, false, []⟩,
  ⟨some 7, .ld none [] (.t 6), none, false, false, [6]⟩,
  ⟨some 8, .call (.c (.fn 154 [] [])) [.t 7], none, false, false, [7]⟩,
  ⟨some 9, .fa 1 (.t 1), none, false, false, []⟩,
  ⟨some 10, .ld none [] (.t 9), none, false, false, [9]⟩,
  ⟨some 11, .build [.int .i64 0, .int .i64 0, .int .i64 0] [(0, 1, .t 10), (1, 1, .c (.int .i64 0)), (2, 1, .c (.int .i64 1048575))], none, false, false, [10]⟩,
  ⟨some 12, .fa 4 (.t 1), none, false, false, []⟩,
  ⟨some 13, .fa 0 (.t 12), none, false, false, [12]⟩,
  ⟨some 14, .ld none [] (.t 13), none, false, false, [13]⟩,
  ⟨some 15, .call (.c (.fn 155 [] [])) [.t 14], none, false, false, [14]⟩,
  ⟨some 16, .fa 4 (.t 1), none, false, false, []⟩,
  ⟨some 17, .fa 1 (.t 16), none, false, false, [16]⟩,
  ⟨some 18, .ld none [] (.t 17), none, false, false, [17]⟩,
  ⟨some 19, .call (.c (.fn 155 [] [])) [.t 18], none, false, false, [18]⟩,
  ⟨some 20, .fa 6 (.t 1), none, false, false, []⟩,
  ⟨some 21, .fa 0 (.t 20), none, false, false, [20]⟩,
  ⟨some 22, .ld none [] (.t 21), none, false, false, [21]⟩,
  ⟨some 23, .call (.c (.fn 155 [] [])) [.t 22], none, false, false, [22]⟩,
  ⟨some 24, .fa 6 (.t 1), none, false, false, []⟩,
  ⟨some 25, .fa 1 (.t 24), none, false, false, [24]⟩,
  ⟨some 26, .ld none [] (.t 25), none, false, false, [25]⟩,
  ⟨some 27, .call (.c (.fn 155 [] [])) [.t 26], none, false, false, [26]⟩,
  ⟨some 28, .rowView 3 [.t 8, .t 11, .t 15, .t 19, .t 23, .t 27], none, false, false, [8, 11, 15, 19, 23, 27]⟩,
  ⟨some 29, .call (.c (.fn 103 [] [])) [.t 28], none, false, false, [28]⟩,
  ⟨some 30, .not (.t 29), none, false, false, [29]⟩])
 (.cond (.t 30)
  (.seq (.ops 2 false [⟨some 2, .mv (.c (.int .i64 2)), none, false, false, []⟩])
  (.ret))
  (.skip)))
 (.seq (.ops 3 false [⟨some 3, .mv (.c (.nils)), none, false, false, []⟩])
 (.seq (.seq (.ops 4 false [⟨some 31, .fa 8 (.t 1), none, false, false, []⟩,
  ⟨some 32, .ld none [] (.t 31), none, false, false, [31]⟩,
  ⟨some 33, .len (.t 32), none, false, false, []⟩,
  ⟨some 34, .mv (.c (.int .i64 0)), none, false, false, []⟩])
 (.block 0 (.loop [1, 3, 32, 33, 34] (.seq (.ops 5 false [⟨some 35, .bin .lss (.t 34) (.t 33), none, false, false, []⟩])
   (.seq (.cond (.t 35)
    (.skip)
    (.exit 0))
   (.seq (.block 1 (.seq (.ops 6 false [⟨some 36, .ia 1 [.int .i64 0] (.t 32) (.t 34), none, false, false, []⟩,
     ⟨some 37, .ld none [.int .i64 0] (.t 36), none, false, false, [36]⟩,
     ⟨some 5, .mv (.t 37), none, false, false, [37]⟩])
    (.ops 7 false [⟨some 38, .mv (.t 3), none, false, false, [3]⟩,
     ⟨some 39, .mv (.t 5), none, false, false, [5]⟩,
     ⟨some 40, .call (.c (.fn 154 [] [])) [.t 39], none, false, false, [39]⟩,
     ⟨some 41, .rowView 3 [.t 40], none, false, false, [40]⟩,
     ⟨some 42, .app 3 (.t 38) (.t 41), none, false, false, [38, 41]⟩,
     ⟨some 3, .mv (.t 42), none, false, false, [42]⟩])))
   (.ops 8 false [⟨some 43, .bin .add (.t 34) (.c (.int .i64 1)), none, false, false, [34]⟩,
    ⟨some 34, .mv (.t 43), none, false, false, [43]⟩])))))))
 (.seq (.seq (.ops 9 false [⟨some 44, .fa 8 (.t 1), none, false, false, []⟩,
  ⟨some 45, .ld none [] (.t 44), none, false, false, [44]⟩,
  ⟨some 46, .len (.t 45), none, false, false, [45]⟩,
  ⟨some 47, .bin .gtr (.t 46) (.c (.int .i64 8)), none, false, false, [46]⟩,
  ⟨some 48, .mv (.t 47), none, false, false, [47]⟩,
  ⟨some 49, .fa 8 (.t 1), (some (48, false)), true, false, []⟩,
  ⟨some 50, .ld none [] (.o 49), (some (48, false)), true, false, [49]⟩,
  ⟨some 51, .call (.c (.fn 113 [] [])) [.o 50], (some (48, false)), true, false, [50]⟩,
  ⟨some 52, .not (.o 51), (some (48, false)), true, false, [51]⟩,
  ⟨some 53, .pick (.t 48) (.c (.bool true)) (.t 52), none, false, false, [48, 52]⟩,
  ⟨some 54, .mv (.t 53), none, false, false, [53]⟩,
  ⟨some 55, .fa 8 (.t 1), (some (54, false)), true, false, []⟩,
  ⟨some 56, .ld none [] (.o 55), (some (54, false)), true, false, [55]⟩,
  ⟨some 57, .fa 0 (.t 1), (some (54, false)), true, false, [1]⟩,
  ⟨some 58, .ld none [] (.o 57), (some (54, false)), true, false, [57]⟩,
  ⟨some 59, .call (.c (.fn 149 [] [])) [.o 56, .o 58], (some (54, false)), true, false, [56, 58]⟩,
  ⟨some 60, .pick (.t 54) (.c (.bool true)) (.t 59), none, false, false, [54, 59]⟩,
  ⟨some 61, .mv (.t 60), none, false, false, [60]⟩,
  ⟨some 62, .mv (.t 3), (some (61, false)), true, false, [3]⟩,
  ⟨some 63, .call (.c (.fn 103 [] [])) [.o 62], (some (61, false)), true, false, [62]⟩,
  ⟨some 64, .not (.o 63), (some (61, false)), true, false, [63]⟩,
  ⟨some 65, .pick (.t 61) (.c (.bool true)) (.t 64), none, false, false, [61, 64]⟩])
 (.cond (.t 65)
  (.seq (.ops 10 false [⟨some 2, .mv (.c (.int .i64 1)), none, false, false, []⟩])
  (.ret))
  (.skip)))
 (.seq (.ops 11 false [⟨some 2, .mv (.c (.int .i64 0)), none, false, false, []⟩])
 (.ret))))))
def rs_task_Check : List IRes := [.t 2]
theorem ok_task_Check : fnOk Try.prog 93 ic_task_Check rs_task_Check 66 = true := by kernel_rfl

/-- tallyman/task.all -/
def ic_task_all : ICode :=
 .seq (.ops 0 false [⟨some 2, .mv (.c (.bool false)), none, false, false, [2]⟩])
 (.back [0, 3] (.seq (.ops 1 false [⟨some 3, .mv (.c (.int .i64 0)), none, false, false, []⟩])
 (.label 0)) 0
  (.seq (.seq (.ops 2 false [⟨some 4, .mv (.t 3), none, false, false, []⟩,
   ⟨some 5, .mv (.t 0), none, false, false, []⟩,
   ⟨some 6, .len (.t 5), none, false, false, [5]⟩,
   ⟨some 7, .bin .eql (.t 4) (.t 6), none, false, false, [4, 6]⟩])
  (.cond (.t 7)
   (.seq (.ops 3 false [⟨some 2, .mv (.c (.bool true)), none, false, false, []⟩])
   (.ret))
   (.skip)))
  (.seq (.seq (.ops 4 true [⟨some 8, .mv (.t 0), none, false, false, []⟩,
   ⟨some 9, .mv (.t 3), none, false, false, []⟩,
   ⟨some 10, .ia 3 [.int .i64 0, .int .i64 0, .int .i64 0] (.t 8) (.t 9), none, false, false, [8, 9]⟩,
   ⟨some 11, .fa 0 (.t 10), none, false, false, [10]⟩,
   ⟨some 12, .ld none [.int .i64 0, .int .i64 0, .int .i64 0] (.t 11), none, false, false, [11]⟩,
   ⟨some 13, .mv (.t 0), none, false, false, []⟩,
   ⟨some 14, .mv (.t 3), none, false, false, []⟩,
   ⟨some 15, .ia 3 [.int .i64 0, .int .i64 0, .int .i64 0] (.t 13) (.t 14), none, false, false, [13, 14]⟩,
   ⟨some 16, .fa 1 (.t 15), none, false, false, [15]⟩,
   ⟨some 17, .ld none [.int .i64 0, .int .i64 0, .int .i64 0] (.t 16), none, false, false, [16]⟩,
   ⟨some 18, .bin .lss (.t 12) (.t 17), none, false, false, [12, 17]⟩,
   ⟨some 19, .mv (.t 18), none, false, false, [18]⟩,
   ⟨some 20, .mv (.t 0), (some (19, false)), true, false, []⟩,
   ⟨some 21, .mv (.t 3), (some (19, false)), true, false, []⟩,
   ⟨some 22, .ia 3 [.int .i64 0, .int .i64 0, .int .i64 0] (.o 20) (.o 21), (some (19, false)), true, false, [20, 21]⟩,
   ⟨some 23, .fa 0 (.o 22), (some (19, false)), true, false, [22]⟩,
   ⟨some 24, .ld none [.int .i64 0, .int .i64 0, .int .i64 0] (.o 23), (some (19, false)), true, false, [23]⟩,
   ⟨some 25, .mv (.t 0), (some (19, false)), true, false, []⟩,
   ⟨some 26, .mv (.t 3), (some (19, false)), true, false, []⟩,
   ⟨some 27, .ia 3 [.int .i64 0, .int .i64 0, .int .i64 0] (.o 25) (.o 26), (some (19, false)), true, false, [25, 26]⟩,
   ⟨some 28, .fa 2 (.o 27), (some (19, false)), true, false, [27]⟩,
   ⟨some 29, .ld none [.int .i64 0, .int .i64 0, .int .i64 0] (.o 28), (some (19, false)), true, false, [28]⟩,
   ⟨some 30, .bin .gtr (.o 24) (.o 29), (some (19, false)), true, false, [24, 29]⟩,
   ⟨some 31, .pick (.t 19) (.c (.bool true)) (.t 30), none, false, false, [19, 30]⟩])
  (.cond (.t 31)
   (.seq (.ops 5 false [⟨some 2, .mv (.c (.bool false)), none, false, false, []⟩])
   (.ret))
   (.skip)))
  (.seq (.ops 6 false [⟨some 32, .mv (.t 3), none, false, false, [3]⟩,
   ⟨some 33, .bin .add (.t 32) (.c (.int .i64 1)), none, false, false, [32]⟩,
   ⟨some 3, .mv (.t 33), none, false, false, [33]⟩])
  (.goto 0)))))
def rs_task_all : List IRes := [.t 2]
theorem ok_task_all : fnOk Try.prog 103 ic_task_all rs_task_all 34 = true := by kernel_rfl

/-- tallyman/task.id -/
def ic_task_id : ICode :=
 .seq (.ops 0 false [⟨some 2, .alloc [.int .i64 0, .int .i64 0, .int .i64 0], none, false, false, []⟩])
 (.seq (.ops 1 false [⟨some 3, .mv (.t 0), none, false, false, [0]⟩,
  ⟨some 4, .build [.int .i64 0, .int .i64 0, .int .i64 0] [(0, 1, .t 3), (1, 1, .c (.int .i64 1)), (2, 1, .c (.int .i64 999))], none, false, false, [3]⟩,
  ⟨none, .st 3 (.t 2) (.t 4), none, false, false, [4]⟩])
 (.ret))
def rs_task_id : List IRes := [.cell 2 (some 3)]
theorem ok_task_id : fnOk Try.prog 154 ic_task_id rs_task_id 5 = true := by kernel_rfl

/-- tallyman/task.wide -/
def ic_task_wide : ICode :=
 .seq (.ops 0 false [⟨some 2, .alloc [.int .i64 0, .int .i64 0, .int .i64 0], none, false, false, []⟩])
 (.seq (.ops 1 false [⟨some 3, .mv (.t 0), none, false, false, [0]⟩,
  ⟨some 4, .build [.int .i64 0, .int .i64 0, .int .i64 0] [(0, 1, .t 3), (1, 1, .c (.int .i64 (-1000))), (2, 1, .c (.int .i64 1000))], none, false, false, [3]⟩,
  ⟨none, .st 3 (.t 2) (.t 4), none, false, false, [4]⟩])
 (.ret))
def rs_task_wide : List IRes := [.cell 2 (some 3)]
theorem ok_task_wide : fnOk Try.prog 155 ic_task_wide rs_task_wide 5 = true := by kernel_rfl

end Go.Proofs.Ytaimhgmakgbfaaa.Sx
