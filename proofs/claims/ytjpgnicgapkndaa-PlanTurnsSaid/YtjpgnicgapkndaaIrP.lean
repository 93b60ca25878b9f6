/- Functions of the seat in the small language. No conditions: a kit of our own. -/
import Derived.Test.YtjpgnicgapkndaaProg
import Derived.Test.YtjpgnicgapkndaaSx17
namespace Go.Proofs.Ytjpgnicgapkndaa.Sx
open Go Go.RowKit
set_option linter.unusedVariables false

/-- tallyman/plan.Cross -/
def ic_plan_Cross : ICode :=
 .seq (.ops 0 false [⟨some 5, .box (.t 1), none, false, false, [1]⟩,
  ⟨some 6, .box (.t 2), none, false, false, [2]⟩,
  ⟨some 8, .mv (.c (.nils)), none, false, false, [8]⟩])
 (.seq (.ops 1 false [⟨some 18, .ld (some 2) [] (.t 5), none, false, false, [5]⟩,
  ⟨some 19, .ld (some 2) [] (.t 6), none, false, false, [6]⟩,
  ⟨some 20, .mv (.t 3), none, false, false, [3]⟩,
  ⟨some 21, .call (.c (.fn 36 [] [])) [.t 18, .t 19, .t 20], none, false, false, [18, 19, 20]⟩,
  ⟨some 17, .mv (.t 21), none, false, false, [21]⟩,
  ⟨some 22, .ext 0 (.t 17), none, false, false, []⟩,
  ⟨some 23, .ext 1 (.t 17), none, false, false, []⟩,
  ⟨some 24, .ext 2 (.t 17), none, false, false, [17]⟩,
  ⟨some 9, .alloc [.int .i64 0, .int .i64 0], none, false, false, []⟩,
  ⟨some 10, .alloc [.int .i64 0, .int .i64 0], none, false, false, []⟩,
  ⟨some 11, .alloc [.int .i64 0, .int .i64 0], none, false, false, []⟩,
  ⟨none, .st 2 (.t 9) (.t 22), none, false, false, [22]⟩,
  ⟨none, .st 2 (.t 10) (.t 23), none, false, false, [23]⟩,
  ⟨none, .st 2 (.t 11) (.t 24), none, false, false, [24]⟩])
 (.seq (.ops 2 true [⟨some 25, .ld (some 2) [] (.t 9), none, false, true, [9]⟩,
  ⟨some 26, .ld (some 2) [] (.t 10), none, false, true, []⟩,
  ⟨some 27, .call (.c (.fn 40 [] [])) [.t 25, .t 26], none, false, true, [25, 26]⟩,
  ⟨some 28, .ld (some 2) [] (.t 10), none, false, true, [10]⟩,
  ⟨some 29, .ld (some 2) [] (.t 11), none, false, true, [11]⟩,
  ⟨some 30, .call (.c (.fn 40 [] [])) [.t 28, .t 29], none, false, true, [28, 29]⟩,
  ⟨some 12, .alloc [.int .i64 0, .int .i64 0, .int .i64 0, .int .i64 0, .int .i64 0], none, false, false, []⟩,
  ⟨some 13, .alloc [.int .i64 0, .int .i64 0, .int .i64 0, .int .i64 0, .int .i64 0], none, false, false, []⟩,
  ⟨none, .st 5 (.t 12) (.t 27), none, false, false, [27]⟩,
  ⟨none, .st 5 (.t 13) (.t 30), none, false, false, [30]⟩])
 (.seq (.ops 3 false [⟨some 14, .mv (.c (.nils)), none, false, false, []⟩])
 (.seq (.seq (.ops 4 false [⟨some 31, .mv (.t 0), none, false, false, [0]⟩,
  ⟨some 32, .len (.t 31), none, false, false, []⟩,
  ⟨some 33, .mv (.c (.int .i64 0)), none, false, false, []⟩])
 (.block 0 (.loop [12, 13, 14, 31, 32, 33] (.seq (.ops 5 false [⟨some 34, .bin .lss (.t 33) (.t 32), none, false, false, []⟩])
   (.seq (.cond (.t 34)
    (.skip)
    (.exit 0))
   (.seq (.block 1 (.seq (.ops 6 false [⟨some 35, .ia 5 [.int .i64 0, .int .i64 0, .int .i64 0, .int .i64 0, .int .i64 0] (.t 31) (.t 33), none, false, false, []⟩,
     ⟨some 36, .ld (some 5) [.int .i64 0, .int .i64 0, .int .i64 0, .int .i64 0, .int .i64 0] (.t 35), none, false, false, [35]⟩,
     ⟨some 16, .alloc [.int .i64 0, .int .i64 0, .int .i64 0, .int .i64 0, .int .i64 0], none, false, false, []⟩,
     ⟨none, .st 5 (.t 16) (.t 36), none, false, false, [36]⟩])
    (.seq (.ops 7 false [⟨some 37, .ld (some 5) [] (.t 16), none, false, false, []⟩,
     ⟨some 38, .ld (some 5) [] (.t 12), none, false, false, []⟩,
     ⟨some 39, .call (.c (.fn 13 [] [])) [.t 37, .t 38], none, false, false, [37, 38]⟩,
     ⟨some 40, .mv (.t 39), none, false, false, [39]⟩,
     ⟨some 41, .ld (some 5) [] (.t 16), (some (40, false)), true, false, []⟩,
     ⟨some 42, .ld (some 5) [] (.t 13), (some (40, false)), true, false, []⟩,
     ⟨some 43, .call (.c (.fn 13 [] [])) [.o 41, .o 42], (some (40, false)), true, false, [41, 42]⟩,
     ⟨some 44, .pick (.t 40) (.c (.bool true)) (.t 43), none, false, false, [40, 43]⟩])
    (.cond (.t 44)
     (.ops 8 false [⟨some 45, .mv (.t 14), none, false, false, [14]⟩,
      ⟨some 46, .fa 0 (.t 16), none, false, false, [16]⟩,
      ⟨some 47, .ld none [] (.t 46), none, false, false, [46]⟩,
      ⟨some 48, .rowView 1 [.t 47], none, false, false, [47]⟩,
      ⟨some 49, .app 1 (.t 45) (.t 48), none, false, false, [45, 48]⟩,
      ⟨some 14, .mv (.t 49), none, false, false, [49]⟩])
     (.skip)))))
   (.ops 9 false [⟨some 50, .bin .add (.t 33) (.c (.int .i64 1)), none, false, false, [33]⟩,
    ⟨some 33, .mv (.t 50), none, false, false, [50]⟩])))))))
 (.seq (.ops 10 false [⟨some 51, .mv (.t 14), none, false, false, []⟩,
  ⟨some 52, .call (.c (.fn 41 [] [])) [.t 51], none, false, false, [51, 52]⟩])
 (.seq (.ops 11 false [⟨some 53, .mv (.t 14), none, false, false, [14]⟩,
  ⟨some 54, .call (.c (.fn 42 [] [])) [.t 53], none, false, false, [53]⟩,
  ⟨some 8, .mv (.t 54), none, false, false, [54]⟩])
 (.ret)))))))
def rs_plan_Cross : List IRes := [.t 8]
theorem ok_plan_Cross : fnOk Try.prog 19 ic_plan_Cross rs_plan_Cross 55 = true := by kernel_rfl
-- open order: two that write, 6 and 7
-- open order: two that write, 7 and 6

/-- tallyman/plan.legs -/
def ic_plan_legs : ICode :=
 .seq (.ops 0 false [⟨some 3, .box (.t 0), none, false, false, [0]⟩,
  ⟨some 4, .box (.t 1), none, false, false, [1]⟩,
  ⟨some 6, .alloc [.int .i64 0, .int .i64 0], none, false, false, []⟩,
  ⟨some 7, .alloc [.int .i64 0, .int .i64 0], none, false, false, []⟩,
  ⟨some 8, .alloc [.int .i64 0, .int .i64 0], none, false, false, []⟩])
 (.seq (.ops 1 true [⟨some 9, .ld (some 2) [] (.t 3), none, false, false, [3]⟩,
  ⟨some 10, .call (.c (.fn 51 [] [])) [.t 9], none, false, false, [9]⟩,
  ⟨some 11, .ld (some 2) [] (.t 4), none, false, false, [4]⟩,
  ⟨some 12, .call (.c (.fn 51 [] [])) [.t 11], none, false, false, [11]⟩,
  ⟨none, .st 2 (.t 6) (.t 10), none, false, false, [10]⟩,
  ⟨none, .st 2 (.t 8) (.t 12), none, false, false, [12]⟩])
 (.seq (.seq (.ops 2 false [⟨some 13, .mv (.t 2), none, false, false, [2]⟩,
  ⟨some 14, .bin .eql (.t 13) (.c (.int .i64 1)), none, false, false, [13]⟩])
 (.cond (.t 14)
  (.seq (.ops 3 true [⟨some 15, .ld (some 2) [] (.t 6), none, false, false, []⟩,
   ⟨some 16, .fa 0 (.t 6), none, false, false, []⟩,
   ⟨some 17, .ld none [] (.t 16), none, false, false, [16]⟩,
   ⟨some 18, .fa 1 (.t 8), none, false, true, []⟩,
   ⟨some 19, .ld none [] (.t 18), none, false, true, [18]⟩,
   ⟨some 20, .build [.int .i64 0, .int .i64 0] [(0, 1, .t 17), (1, 1, .t 19)], none, false, false, [17, 19]⟩,
   ⟨some 21, .ld (some 2) [] (.t 8), none, false, true, []⟩,
   ⟨none, .st 2 (.t 6) (.t 15), none, false, false, [15]⟩,
   ⟨none, .st 2 (.t 7) (.t 20), none, false, false, [20]⟩,
   ⟨none, .st 2 (.t 8) (.t 21), none, false, false, [21]⟩])
  (.ret))
  (.skip)))
 (.seq (.ops 4 true [⟨some 22, .ld (some 2) [] (.t 6), none, false, false, []⟩,
  ⟨some 23, .fa 0 (.t 8), none, false, true, []⟩,
  ⟨some 24, .ld none [] (.t 23), none, false, true, [23]⟩,
  ⟨some 25, .fa 1 (.t 6), none, false, false, []⟩,
  ⟨some 26, .ld none [] (.t 25), none, false, false, [25]⟩,
  ⟨some 27, .build [.int .i64 0, .int .i64 0] [(0, 1, .t 24), (1, 1, .t 26)], none, false, false, [24, 26]⟩,
  ⟨some 28, .ld (some 2) [] (.t 8), none, false, true, []⟩,
  ⟨none, .st 2 (.t 6) (.t 22), none, false, false, [22]⟩,
  ⟨none, .st 2 (.t 7) (.t 27), none, false, false, [27]⟩,
  ⟨none, .st 2 (.t 8) (.t 28), none, false, false, [28]⟩])
 (.ret))))
def rs_plan_legs : List IRes := [.cell 6 (some 2), .cell 7 (some 2), .cell 8 (some 2)]
theorem ok_plan_legs : fnOk Try.prog 36 ic_plan_legs rs_plan_legs 29 = true := by kernel_rfl

/-- tallyman/plan.block -/
def ic_plan_block : ICode :=
 .seq (.ops 0 false [⟨some 2, .box (.t 0), none, false, false, [0]⟩,
  ⟨some 3, .box (.t 1), none, false, false, [1]⟩,
  ⟨some 4, .alloc [.int .i64 0, .int .i64 0, .int .i64 0, .int .i64 0, .int .i64 0], none, false, false, []⟩])
 (.seq (.ops 1 false [⟨some 5, .fa 0 (.t 2), none, false, false, []⟩,
  ⟨some 6, .ld none [] (.t 5), none, false, false, [5]⟩,
  ⟨some 7, .fa 0 (.t 3), none, false, false, []⟩,
  ⟨some 8, .ld none [] (.t 7), none, false, false, [7]⟩,
  ⟨some 9, .mn [.t 6, .t 8], none, false, false, [6, 8]⟩,
  ⟨some 10, .fa 1 (.t 2), none, false, false, []⟩,
  ⟨some 11, .ld none [] (.t 10), none, false, false, [10]⟩,
  ⟨some 12, .fa 1 (.t 3), none, false, false, []⟩,
  ⟨some 13, .ld none [] (.t 12), none, false, false, [12]⟩,
  ⟨some 14, .mn [.t 11, .t 13], none, false, false, [11, 13]⟩,
  ⟨some 15, .build [.int .i64 0, .int .i64 0] [(0, 1, .t 9), (1, 1, .t 14)], none, false, false, [9, 14]⟩,
  ⟨some 16, .fa 0 (.t 2), none, false, false, []⟩,
  ⟨some 17, .ld none [] (.t 16), none, false, false, [16]⟩,
  ⟨some 18, .fa 0 (.t 3), none, false, false, []⟩,
  ⟨some 19, .ld none [] (.t 18), none, false, false, [18]⟩,
  ⟨some 20, .mx [.t 17, .t 19], none, false, false, [17, 19]⟩,
  ⟨some 21, .fa 1 (.t 2), none, false, false, [2]⟩,
  ⟨some 22, .ld none [] (.t 21), none, false, false, [21]⟩,
  ⟨some 23, .fa 1 (.t 3), none, false, false, [3]⟩,
  ⟨some 24, .ld none [] (.t 23), none, false, false, [23]⟩,
  ⟨some 25, .mx [.t 22, .t 24], none, false, false, [22, 24]⟩,
  ⟨some 26, .build [.int .i64 0, .int .i64 0] [(0, 1, .t 20), (1, 1, .t 25)], none, false, false, [20, 25]⟩,
  ⟨some 27, .build [.int .i64 0, .int .i64 0, .int .i64 0, .int .i64 0, .int .i64 0] [(1, 2, .t 15), (3, 2, .t 26)], none, false, false, [15, 26]⟩,
  ⟨none, .st 5 (.t 4) (.t 27), none, false, false, [27]⟩])
 (.ret))
def rs_plan_block : List IRes := [.cell 4 (some 5)]
theorem ok_plan_block : fnOk Try.prog 40 ic_plan_block rs_plan_block 28 = true := by kernel_rfl

/-- tallyman/plan.At -/
def ic_plan_At : ICode :=
 .seq (.ops 0 false [⟨some 3, .box (.t 1), none, false, false, [1]⟩,
  ⟨some 4, .mv (.c (.int .i64 0)), none, false, false, [4]⟩,
  ⟨some 5, .mv (.c (.bool false)), none, false, false, [5]⟩])
 (.seq (.ops 1 false [⟨some 7, .mv (.t 0), none, false, false, []⟩,
  ⟨some 8, .mkfn 30 [] [.t 3], none, false, false, [3]⟩,
  ⟨some 9, .call (.c (.fn 29 [] [])) [.t 7, .t 8], none, false, false, [7, 8]⟩,
  ⟨some 6, .mv (.t 9), none, false, false, [9]⟩])
 (.seq (.seq (.ops 2 false [⟨some 10, .mv (.t 6), none, false, false, []⟩,
  ⟨some 11, .bin .lss (.t 10) (.c (.int .i64 0)), none, false, false, [10]⟩])
 (.cond (.t 11)
  (.seq (.ops 3 false [⟨some 4, .mv (.c (.int .i64 0)), none, false, false, []⟩,
   ⟨some 5, .mv (.c (.bool false)), none, false, false, []⟩])
  (.ret))
  (.skip)))
 (.seq (.ops 4 false [⟨some 12, .mv (.t 0), none, false, false, [0]⟩,
  ⟨some 13, .mv (.t 6), none, false, false, [6]⟩,
  ⟨some 14, .ia 5 [.int .i64 0, .int .i64 0, .int .i64 0, .int .i64 0, .int .i64 0] (.t 12) (.t 13), none, false, false, [12, 13]⟩,
  ⟨some 15, .fa 0 (.t 14), none, false, false, [14]⟩,
  ⟨some 16, .ld none [.int .i64 0, .int .i64 0, .int .i64 0, .int .i64 0, .int .i64 0] (.t 15), none, false, false, [15]⟩,
  ⟨some 4, .mv (.t 16), none, false, false, [16]⟩,
  ⟨some 5, .mv (.c (.bool true)), none, false, false, []⟩])
 (.ret))))
def rs_plan_At : List IRes := [.t 4, .t 5]
theorem ok_plan_At : fnOk Try.prog 9 ic_plan_At rs_plan_At 17 = true := by kernel_rfl

/-- tallyman/plan.At$1 -/
def ic_plan_At_1 : ICode :=
 .seq (.ops 0 false [⟨some 2, .box (.t 0), none, false, false, [0]⟩,
  ⟨some 3, .mv (.c (.bool false)), none, false, false, [3]⟩])
 (.seq (.ops 1 false [⟨some 4, .ld (some 5) [] (.t 2), none, false, false, [2]⟩,
  ⟨some 5, .ld (some 2) [] (.t 1), none, false, false, [1]⟩,
  ⟨some 6, .call (.c (.fn 31 [] [])) [.t 4, .t 5], none, false, false, [4, 5]⟩,
  ⟨some 3, .mv (.t 6), none, false, false, [6]⟩])
 (.ret))
def rs_plan_At_1 : List IRes := [.t 3]
theorem ok_plan_At_1 : fnOk Try.prog 30 ic_plan_At_1 rs_plan_At_1 7 = true := by kernel_rfl

/-- tallyman/tallymanref07.Cross -/
def ic_r07_Cross : ICode :=
 .seq (.ops 0 false [⟨some 5, .box (.t 1), none, false, false, [1]⟩,
  ⟨some 6, .box (.t 2), none, false, false, [2]⟩,
  ⟨some 8, .mv (.c (.nils)), none, false, false, [8]⟩])
 (.seq (.ops 1 false [⟨some 14, .ld (some 2) [] (.t 5), none, false, false, [5]⟩,
  ⟨some 15, .ld (some 2) [] (.t 6), none, false, false, [6]⟩,
  ⟨some 16, .mv (.t 3), none, false, false, [3]⟩,
  ⟨some 17, .call (.c (.fn 17 [] [])) [.t 14, .t 15, .t 16], none, false, false, [14, 15, 16]⟩,
  ⟨some 9, .mv (.t 17), none, false, false, [17]⟩])
 (.seq (.ops 2 false [⟨some 10, .mv (.c (.nils)), none, false, false, []⟩])
 (.seq (.seq (.ops 3 false [⟨some 11, .mv (.c (.int .i64 0)), none, false, false, []⟩])
 (.block 0 (.loop [0, 9, 10, 11] (.seq (.seq (.ops 4 false [⟨some 18, .mv (.t 11), none, false, false, []⟩,
    ⟨some 19, .mv (.t 0), none, false, false, []⟩,
    ⟨some 20, .len (.t 19), none, false, false, [19]⟩,
    ⟨some 21, .bin .lss (.t 18) (.t 20), none, false, false, [18, 20]⟩])
   (.cond (.t 21)
    (.skip)
    (.exit 0)))
   (.seq (.block 1 (.seq (.ops 6 false [⟨some 12, .mv (.c (.bool false)), none, false, false, []⟩])
    (.seq (.seq (.ops 7 false [⟨some 13, .mv (.c (.int .i64 0)), none, false, false, []⟩])
    (.block 2 (.loop [0, 9, 10, 11, 12, 13] (.seq (.seq (.ops 8 false [⟨some 24, .mv (.t 13), none, false, false, []⟩,
       ⟨some 25, .mv (.t 9), none, false, false, []⟩,
       ⟨some 26, .len (.t 25), none, false, false, [25]⟩,
       ⟨some 27, .bin .lss (.t 24) (.t 26), none, false, false, [24, 26]⟩,
       ⟨some 28, .mv (.t 27), none, false, false, [27]⟩,
       ⟨some 29, .mv (.t 12), (some (28, true)), true, false, []⟩,
       ⟨some 30, .not (.o 29), (some (28, true)), true, false, [29]⟩,
       ⟨some 31, .pick (.t 28) (.t 30) (.c (.bool false)), none, false, false, [28, 30]⟩])
      (.cond (.t 31)
       (.skip)
       (.exit 2)))
      (.seq (.block 3 (.ops 10 true [⟨some 34, .mv (.t 0), none, false, false, []⟩,
        ⟨some 35, .mv (.t 11), none, false, false, []⟩,
        ⟨some 36, .ia 5 [.int .i64 0, .int .i64 0, .int .i64 0, .int .i64 0, .int .i64 0] (.t 34) (.t 35), none, false, false, [34, 35]⟩,
        ⟨some 37, .ld (some 5) [.int .i64 0, .int .i64 0, .int .i64 0, .int .i64 0, .int .i64 0] (.t 36), none, false, false, [36]⟩,
        ⟨some 38, .mv (.t 9), none, false, false, []⟩,
        ⟨some 39, .mv (.t 13), none, false, false, []⟩,
        ⟨some 40, .ia 2 [.int .i64 0, .int .i64 0] (.t 38) (.t 39), none, false, false, [38, 39]⟩,
        ⟨some 41, .ld (some 2) [.int .i64 0, .int .i64 0] (.t 40), none, false, false, [40]⟩,
        ⟨some 42, .call (.c (.fn 32 [] [])) [.t 37, .t 41], none, false, false, [37, 41]⟩,
        ⟨some 12, .mv (.t 42), none, false, false, [42]⟩]))
      (.ops 9 false [⟨some 32, .mv (.t 13), none, false, false, [13]⟩,
       ⟨some 33, .bin .add (.t 32) (.c (.int .i64 1)), none, false, false, [32]⟩,
       ⟨some 13, .mv (.t 33), none, false, false, [33]⟩]))))))
    (.seq (.ops 11 false [⟨some 43, .mv (.t 12), none, false, false, [12]⟩])
    (.cond (.t 43)
     (.ops 12 false [⟨some 44, .mv (.t 10), none, false, false, [10]⟩,
      ⟨some 45, .mv (.t 0), none, false, false, []⟩,
      ⟨some 46, .mv (.t 11), none, false, false, []⟩,
      ⟨some 47, .ia 5 [.int .i64 0, .int .i64 0, .int .i64 0, .int .i64 0, .int .i64 0] (.t 45) (.t 46), none, false, false, [45, 46]⟩,
      ⟨some 48, .fa 0 (.t 47), none, false, false, [47]⟩,
      ⟨some 49, .ld none [.int .i64 0, .int .i64 0, .int .i64 0, .int .i64 0, .int .i64 0] (.t 48), none, false, false, [48]⟩,
      ⟨some 50, .call (.c (.fn 43 [] [])) [.t 44, .t 49], none, false, false, [44, 49]⟩,
      ⟨some 10, .mv (.t 50), none, false, false, [50]⟩])
     (.skip))))))
   (.ops 5 false [⟨some 22, .mv (.t 11), none, false, false, [11]⟩,
    ⟨some 23, .bin .add (.t 22) (.c (.int .i64 1)), none, false, false, [22]⟩,
    ⟨some 11, .mv (.t 23), none, false, false, [23]⟩]))))))
 (.seq (.ops 13 false [⟨some 51, .mv (.t 10), none, false, false, [10]⟩,
  ⟨some 8, .mv (.t 51), none, false, false, [51]⟩])
 (.ret)))))
def rs_r07_Cross : List IRes := [.t 8]
theorem ok_r07_Cross : fnOk Try.prog 20 ic_r07_Cross rs_r07_Cross 52 = true := by kernel_rfl

/-- tallyman/tallymanref07.Route -/
def ic_r07_Route : ICode :=
 .seq (.ops 0 false [⟨some 3, .box (.t 0), none, false, false, [0]⟩,
  ⟨some 4, .box (.t 1), none, false, false, [1]⟩,
  ⟨some 6, .mv (.c (.nils)), none, false, false, [6]⟩])
 (.seq (.ops 1 true [⟨some 10, .ld (some 2) [] (.t 3), none, false, true, [3]⟩,
  ⟨some 11, .call (.c (.fn 38 [] [])) [.t 10], none, false, true, [10]⟩,
  ⟨some 12, .ld (some 2) [] (.t 4), none, false, true, [4]⟩,
  ⟨some 13, .call (.c (.fn 38 [] [])) [.t 12], none, false, true, [12]⟩,
  ⟨some 7, .alloc [.int .i64 0, .int .i64 0], none, false, false, []⟩,
  ⟨some 8, .alloc [.int .i64 0, .int .i64 0], none, false, false, []⟩,
  ⟨none, .st 2 (.t 7) (.t 11), none, false, false, [11]⟩,
  ⟨none, .st 2 (.t 8) (.t 13), none, false, false, [13]⟩])
 (.seq (.ops 2 false [⟨some 14, .ld (some 2) [] (.t 7), none, false, false, []⟩,
  ⟨some 15, .rowOwn 2 [.t 14], none, false, false, [14]⟩,
  ⟨some 9, .mv (.t 15), none, false, false, [15]⟩])
 (.seq (.block 0 (.loop [2, 7, 8, 9] (.seq (.seq (.ops 3 false [⟨some 16, .ld (some 2) [] (.t 7), none, false, false, []⟩,
    ⟨some 17, .ld (some 2) [] (.t 8), none, false, false, []⟩,
    ⟨some 18, .eqc true [false, false] (.t 16) (.t 17), none, false, false, [16, 17]⟩])
   (.cond (.t 18)
    (.skip)
    (.exit 0)))
   (.block 1 (.seq (.seq (.ops 4 false [⟨some 19, .fa 1 (.t 7), none, false, false, []⟩,
     ⟨some 20, .ld none [] (.t 19), none, false, false, [19]⟩,
     ⟨some 21, .fa 1 (.t 8), none, false, false, []⟩,
     ⟨some 22, .ld none [] (.t 21), none, false, false, [21]⟩,
     ⟨some 23, .bin .eql (.t 20) (.t 22), none, false, false, [20, 22]⟩,
     ⟨some 24, .mv (.t 23), none, false, false, [23]⟩,
     ⟨some 25, .mv (.t 2), (some (24, false)), true, false, []⟩,
     ⟨some 26, .bin .neq (.o 25) (.c (.int .i64 1)), (some (24, false)), true, false, [25]⟩,
     ⟨some 27, .mv (.o 26), (some (24, false)), true, false, [26]⟩,
     ⟨some 28, .fa 0 (.t 7), (some (27, true)), true, false, []⟩,
     ⟨some 29, .ld none [] (.o 28), (some (27, true)), true, false, [28]⟩,
     ⟨some 30, .fa 0 (.t 8), (some (27, true)), true, false, []⟩,
     ⟨some 31, .ld none [] (.o 30), (some (27, true)), true, false, [30]⟩,
     ⟨some 32, .bin .neq (.o 29) (.o 31), (some (27, true)), true, false, [29, 31]⟩,
     ⟨some 33, .pick (.o 27) (.t 32) (.c (.bool false)), (some (24, false)), true, false, [27, 32]⟩,
     ⟨some 34, .pick (.t 24) (.c (.bool true)) (.t 33), none, false, false, [24, 33]⟩])
    (.cond (.t 34)
     (.ops 5 false [⟨some 35, .fa 0 (.t 7), none, false, false, []⟩,
      ⟨some 36, .ld none [] (.t 35), none, false, false, [35]⟩,
      ⟨some 37, .fa 0 (.t 8), none, false, false, []⟩,
      ⟨some 38, .ld none [] (.t 37), none, false, false, [37]⟩,
      ⟨some 39, .call (.c (.fn 39 [] [])) [.t 36, .t 38], none, false, false, [36, 38]⟩,
      ⟨some 40, .fa 0 (.t 7), none, false, false, []⟩,
      ⟨none, .st 1 (.t 40) (.t 39), none, false, false, [39, 40]⟩])
     (.ops 6 false [⟨some 41, .fa 1 (.t 7), none, false, false, []⟩,
      ⟨some 42, .ld none [] (.t 41), none, false, false, [41]⟩,
      ⟨some 43, .fa 1 (.t 8), none, false, false, []⟩,
      ⟨some 44, .ld none [] (.t 43), none, false, false, [43]⟩,
      ⟨some 45, .call (.c (.fn 39 [] [])) [.t 42, .t 44], none, false, false, [42, 44]⟩,
      ⟨some 46, .fa 1 (.t 7), none, false, false, []⟩,
      ⟨none, .st 1 (.t 46) (.t 45), none, false, false, [45, 46]⟩])))
    (.ops 7 false [⟨some 47, .mv (.t 9), none, false, false, [9]⟩,
     ⟨some 48, .ld (some 2) [] (.t 7), none, false, false, []⟩,
     ⟨some 49, .rowView 2 [.t 48], none, false, false, [48]⟩,
     ⟨some 50, .app 2 (.t 47) (.t 49), none, false, false, [47, 49]⟩,
     ⟨some 9, .mv (.t 50), none, false, false, [50]⟩]))))))
 (.seq (.ops 8 false [⟨some 51, .mv (.t 9), none, false, false, [9]⟩,
  ⟨some 6, .mv (.t 51), none, false, false, [51]⟩])
 (.ret)))))
def rs_r07_Route : List IRes := [.t 6]
theorem ok_r07_Route : fnOk Try.prog 17 ic_r07_Route rs_r07_Route 52 = true := by kernel_rfl
-- open order: two that write, 4 and 5
-- open order: two that write, 5 and 4

/-- tallyman/tallymanref07.near -/
def ic_r07_near : ICode :=
 .seq (.ops 0 false [⟨some 1, .box (.t 0), none, false, false, [0]⟩,
  ⟨some 2, .alloc [.int .i64 0, .int .i64 0], none, false, false, []⟩])
 (.seq (.ops 1 true [⟨some 3, .fa 0 (.t 1), none, false, false, []⟩,
  ⟨some 4, .ld none [] (.t 3), none, false, false, [3]⟩,
  ⟨some 5, .call (.c (.fn 54 [] [])) [.t 4, .c (.int .i64 (-1000)), .c (.int .i64 1000)], none, false, false, [4]⟩,
  ⟨some 6, .fa 1 (.t 1), none, false, false, [1]⟩,
  ⟨some 7, .ld none [] (.t 6), none, false, false, [6]⟩,
  ⟨some 8, .call (.c (.fn 54 [] [])) [.t 7, .c (.int .i64 (-1000)), .c (.int .i64 1000)], none, false, false, [7]⟩,
  ⟨some 9, .build [.int .i64 0, .int .i64 0] [(0, 1, .t 5), (1, 1, .t 8)], none, false, false, [5, 8]⟩,
  ⟨none, .st 2 (.t 2) (.t 9), none, false, false, [9]⟩])
 (.ret))
def rs_r07_near : List IRes := [.cell 2 (some 2)]
theorem ok_r07_near : fnOk Try.prog 38 ic_r07_near rs_r07_near 10 = true := by kernel_rfl

/-- tallyman/tallymanref07.put -/
def ic_r07_put : ICode :=
 .seq (.ops 0 false [⟨some 4, .mv (.c (.nils)), none, false, false, [4]⟩])
 (.seq (.ops 1 false [⟨some 5, .mv (.c (.nils)), none, false, false, []⟩])
 (.seq (.ops 2 false [⟨some 6, .mv (.c (.bool false)), none, false, false, []⟩])
 (.seq (.seq (.ops 3 false [⟨some 7, .mv (.c (.int .i64 0)), none, false, false, []⟩])
 (.block 0 (.loop [0, 1, 5, 6, 7] (.seq (.seq (.ops 4 false [⟨some 8, .mv (.t 7), none, false, false, []⟩,
    ⟨some 9, .mv (.t 0), none, false, false, []⟩,
    ⟨some 10, .len (.t 9), none, false, false, [9]⟩,
    ⟨some 11, .bin .lss (.t 8) (.t 10), none, false, false, [8, 10]⟩])
   (.cond (.t 11)
    (.skip)
    (.exit 0)))
   (.seq (.block 1 (.seq (.seq (.ops 6 false [⟨some 14, .mv (.t 6), none, false, false, []⟩,
     ⟨some 15, .not (.t 14), none, false, false, [14]⟩,
     ⟨some 16, .mv (.t 15), none, false, false, [15]⟩,
     ⟨some 17, .mv (.t 1), (some (16, true)), true, false, []⟩,
     ⟨some 18, .mv (.t 0), (some (16, true)), true, false, []⟩,
     ⟨some 19, .mv (.t 7), (some (16, true)), true, false, []⟩,
     ⟨some 20, .ia 1 [.int .i64 0] (.o 18) (.o 19), (some (16, true)), true, false, [18, 19]⟩,
     ⟨some 21, .ld none [.int .i64 0] (.o 20), (some (16, true)), true, false, [20]⟩,
     ⟨some 22, .bin .leq (.o 17) (.o 21), (some (16, true)), true, false, [17, 21]⟩,
     ⟨some 23, .pick (.t 16) (.t 22) (.c (.bool false)), none, false, false, [16, 22]⟩])
    (.cond (.t 23)
     (.seq (.ops 7 false [⟨some 24, .mv (.t 5), none, false, false, [5]⟩,
      ⟨some 25, .mv (.t 1), none, false, false, []⟩,
      ⟨some 26, .rowView 1 [.t 25], none, false, false, [25]⟩,
      ⟨some 27, .app 1 (.t 24) (.t 26), none, false, false, [24, 26]⟩,
      ⟨some 5, .mv (.t 27), none, false, false, [27]⟩])
     (.ops 8 false [⟨some 6, .mv (.c (.bool true)), none, false, false, []⟩]))
     (.skip)))
    (.seq (.ops 9 false [⟨some 28, .mv (.t 0), none, false, false, []⟩,
     ⟨some 29, .mv (.t 7), none, false, false, []⟩,
     ⟨some 30, .ia 1 [.int .i64 0] (.t 28) (.t 29), none, false, false, [28, 29]⟩,
     ⟨some 31, .ld none [.int .i64 0] (.t 30), none, false, false, [30]⟩,
     ⟨some 32, .mv (.t 1), none, false, false, []⟩,
     ⟨some 33, .bin .neq (.t 31) (.t 32), none, false, false, [31, 32]⟩])
    (.cond (.t 33)
     (.ops 10 false [⟨some 34, .mv (.t 5), none, false, false, [5]⟩,
      ⟨some 35, .mv (.t 0), none, false, false, []⟩,
      ⟨some 36, .mv (.t 7), none, false, false, []⟩,
      ⟨some 37, .ia 1 [.int .i64 0] (.t 35) (.t 36), none, false, false, [35, 36]⟩,
      ⟨some 38, .ld none [.int .i64 0] (.t 37), none, false, false, [37]⟩,
      ⟨some 39, .rowView 1 [.t 38], none, false, false, [38]⟩,
      ⟨some 40, .app 1 (.t 34) (.t 39), none, false, false, [34, 39]⟩,
      ⟨some 5, .mv (.t 40), none, false, false, [40]⟩])
     (.skip)))))
   (.ops 5 false [⟨some 12, .mv (.t 7), none, false, false, [7]⟩,
    ⟨some 13, .bin .add (.t 12) (.c (.int .i64 1)), none, false, false, [12]⟩,
    ⟨some 7, .mv (.t 13), none, false, false, [13]⟩]))))))
 (.seq (.seq (.ops 11 false [⟨some 41, .mv (.t 6), none, false, false, [6]⟩,
  ⟨some 42, .not (.t 41), none, false, false, [41]⟩])
 (.cond (.t 42)
  (.ops 12 false [⟨some 43, .mv (.t 5), none, false, false, [5]⟩,
   ⟨some 44, .mv (.t 1), none, false, false, [1]⟩,
   ⟨some 45, .rowView 1 [.t 44], none, false, false, [44]⟩,
   ⟨some 46, .app 1 (.t 43) (.t 45), none, false, false, [43, 45]⟩,
   ⟨some 5, .mv (.t 46), none, false, false, [46]⟩])
  (.skip)))
 (.seq (.ops 13 false [⟨some 47, .mv (.t 5), none, false, false, [5]⟩,
  ⟨some 4, .mv (.t 47), none, false, false, [47]⟩])
 (.ret))))))
def rs_r07_put : List IRes := [.t 4]
theorem ok_r07_put : fnOk Try.prog 43 ic_r07_put rs_r07_put 48 = true := by kernel_rfl

/-- tallyman/tallymanref07.toward -/
def ic_r07_toward : ICode :=
 .seq (.ops 0 false [⟨some 4, .mv (.c (.int .i64 0)), none, false, false, [4]⟩])
 (.seq (.seq (.ops 1 false [⟨some 5, .mv (.t 0), none, false, false, []⟩,
  ⟨some 6, .mv (.t 1), none, false, false, []⟩,
  ⟨some 7, .bin .lss (.t 5) (.t 6), none, false, false, [5, 6]⟩])
 (.cond (.t 7)
  (.seq (.ops 2 false [⟨some 8, .mv (.t 0), none, false, false, [0]⟩,
   ⟨some 9, .bin .add (.t 8) (.c (.int .i64 1)), none, false, false, [8]⟩,
   ⟨some 4, .mv (.t 9), none, false, false, [9]⟩])
  (.ret))
  (.skip)))
 (.seq (.seq (.ops 3 false [⟨some 10, .mv (.t 0), none, false, false, []⟩,
  ⟨some 11, .mv (.t 1), none, false, false, [1]⟩,
  ⟨some 12, .bin .gtr (.t 10) (.t 11), none, false, false, [10, 11]⟩])
 (.cond (.t 12)
  (.seq (.ops 4 false [⟨some 13, .mv (.t 0), none, false, false, [0]⟩,
   ⟨some 14, .bin .sub (.t 13) (.c (.int .i64 1)), none, false, false, [13]⟩,
   ⟨some 4, .mv (.t 14), none, false, false, [14]⟩])
  (.ret))
  (.skip)))
 (.seq (.ops 5 false [⟨some 15, .mv (.t 0), none, false, false, [0]⟩,
  ⟨some 4, .mv (.t 15), none, false, false, [15]⟩])
 (.ret))))
def rs_r07_toward : List IRes := [.t 4]
theorem ok_r07_toward : fnOk Try.prog 39 ic_r07_toward rs_r07_toward 16 = true := by kernel_rfl

/-- tallyman/tallymanref07.Same -/
def ic_r07_Same : ICode :=
 .seq (.ops 0 false [⟨some 4, .mv (.c (.bool false)), none, false, false, [4]⟩])
 (.seq (.seq (.ops 1 false [⟨some 6, .mv (.t 0), none, false, false, []⟩,
  ⟨some 7, .len (.t 6), none, false, false, [6]⟩,
  ⟨some 8, .mv (.t 1), none, false, false, []⟩,
  ⟨some 9, .len (.t 8), none, false, false, [8]⟩,
  ⟨some 10, .bin .neq (.t 7) (.t 9), none, false, false, [7, 9]⟩])
 (.cond (.t 10)
  (.seq (.ops 2 false [⟨some 4, .mv (.c (.bool false)), none, false, false, []⟩])
  (.ret))
  (.skip)))
 (.seq (.seq (.ops 3 false [⟨some 5, .mv (.c (.int .i64 0)), none, false, false, []⟩])
 (.block 0 (.loop [0, 1, 5] (.seq (.seq (.ops 4 false [⟨some 11, .mv (.t 5), none, false, false, []⟩,
    ⟨some 12, .mv (.t 0), none, false, false, []⟩,
    ⟨some 13, .len (.t 12), none, false, false, [12]⟩,
    ⟨some 14, .bin .lss (.t 11) (.t 13), none, false, false, [11, 13]⟩])
   (.cond (.t 14)
    (.skip)
    (.exit 0)))
   (.seq (.block 1 (.seq (.ops 6 true [⟨some 17, .mv (.t 0), none, false, false, []⟩,
     ⟨some 18, .mv (.t 5), none, false, false, []⟩,
     ⟨some 19, .ia 5 [.int .i64 0, .int .i64 0, .int .i64 0, .int .i64 0, .int .i64 0] (.t 17) (.t 18), none, false, false, [17, 18]⟩,
     ⟨some 20, .ld (some 5) [.int .i64 0, .int .i64 0, .int .i64 0, .int .i64 0, .int .i64 0] (.t 19), none, false, false, [19]⟩,
     ⟨some 21, .mv (.t 1), none, false, false, []⟩,
     ⟨some 22, .mv (.t 5), none, false, false, []⟩,
     ⟨some 23, .ia 5 [.int .i64 0, .int .i64 0, .int .i64 0, .int .i64 0, .int .i64 0] (.t 21) (.t 22), none, false, false, [21, 22]⟩,
     ⟨some 24, .ld (some 5) [.int .i64 0, .int .i64 0, .int .i64 0, .int .i64 0, .int .i64 0] (.t 23), none, false, false, [23]⟩,
     ⟨some 25, .eqc true [false, false, false, false, false] (.t 20) (.t 24), none, false, false, [20, 24]⟩])
    (.cond (.t 25)
     (.seq (.ops 7 false [⟨some 4, .mv (.c (.bool false)), none, false, false, []⟩])
     (.ret))
     (.skip))))
   (.ops 5 false [⟨some 15, .mv (.t 5), none, false, false, [5]⟩,
    ⟨some 16, .bin .add (.t 15) (.c (.int .i64 1)), none, false, false, [15]⟩,
    ⟨some 5, .mv (.t 16), none, false, false, [16]⟩]))))))
 (.seq (.ops 8 false [⟨some 4, .mv (.c (.bool true)), none, false, false, []⟩])
 (.ret))))
def rs_r07_Same : List IRes := [.t 4]
theorem ok_r07_Same : fnOk Try.prog 21 ic_r07_Same rs_r07_Same 26 = true := by kernel_rfl

/-- tallyman/tallymanref02.Clip -/
def ic_r02_Clip : ICode :=
 .seq (.ops 0 false [⟨some 6, .mv (.c (.int .i64 0)), none, false, false, [6]⟩])
 (.seq (.seq (.ops 1 false [⟨some 7, .mv (.t 0), none, false, false, []⟩,
  ⟨some 8, .mv (.t 1), none, false, false, []⟩,
  ⟨some 9, .bin .lss (.t 7) (.t 8), none, false, false, [7, 8]⟩])
 (.cond (.t 9)
  (.seq (.ops 2 false [⟨some 10, .mv (.t 1), none, false, false, [1]⟩,
   ⟨some 6, .mv (.t 10), none, false, false, [10]⟩])
  (.ret))
  (.skip)))
 (.seq (.seq (.ops 3 false [⟨some 11, .mv (.t 0), none, false, false, []⟩,
  ⟨some 12, .mv (.t 2), none, false, false, []⟩,
  ⟨some 13, .bin .gtr (.t 11) (.t 12), none, false, false, [11, 12]⟩])
 (.cond (.t 13)
  (.seq (.ops 4 false [⟨some 14, .mv (.t 2), none, false, false, [2]⟩,
   ⟨some 6, .mv (.t 14), none, false, false, [14]⟩])
  (.ret))
  (.skip)))
 (.seq (.ops 5 false [⟨some 15, .mv (.t 0), none, false, false, [0]⟩,
  ⟨some 6, .mv (.t 15), none, false, false, [15]⟩])
 (.ret))))
def rs_r02_Clip : List IRes := [.t 6]
theorem ok_r02_Clip : fnOk Try.prog 54 ic_r02_Clip rs_r02_Clip 16 = true := by kernel_rfl

end Go.Proofs.Ytjpgnicgapkndaa.Sx
