/- Functions of the seat in the small language. No conditions: a kit of our own. -/
import Derived.Test.YteidimemlonjbaaProg
import Derived.Test.YteidimemlonjbaaSx17
namespace Go.Proofs.Yteidimemlonjbaa.Sx
open Go Go.RowKit
set_option linter.unusedVariables false

/-- slices.Compact(()int,int) -/
def ic_slices_Compact_int_int : ICode :=
 .seq (.ops 0 false [⟨some 2, .mv (.c (.nils)), none, false, false, [2]⟩])
 (.seq (.seq (.ops 1 false [⟨some 6, .mv (.t 0), none, false, false, []⟩,
  ⟨some 7, .len (.t 6), none, false, false, [6]⟩,
  ⟨some 8, .bin .lss (.t 7) (.c (.int .i64 2)), none, false, false, [7]⟩])
 (.cond (.t 8)
  (.seq (.ops 2 false [⟨some 9, .mv (.t 0), none, false, false, [0]⟩,
   ⟨some 2, .mv (.t 9), none, false, false, [9]⟩])
  (.ret))
  (.skip)))
 (.seq (.seq (.ops 3 false [⟨some 3, .mv (.c (.int .i64 1)), none, false, false, []⟩])
 (.block 0 (.loop [0, 3] (.seq (.seq (.ops 4 false [⟨some 10, .mv (.t 3), none, false, false, []⟩,
    ⟨some 11, .mv (.t 0), none, false, false, []⟩,
    ⟨some 12, .len (.t 11), none, false, false, [11]⟩,
    ⟨some 13, .bin .lss (.t 10) (.t 12), none, false, false, [10, 12]⟩])
   (.cond (.t 13)
    (.skip)
    (.exit 0)))
   (.seq (.block 1 (.seq (.ops 6 true [⟨some 16, .mv (.t 0), none, false, false, []⟩,
     ⟨some 17, .mv (.t 3), none, false, false, []⟩,
     ⟨some 18, .ia 1 [.int .i64 0] (.t 16) (.t 17), none, false, false, [16, 17]⟩,
     ⟨some 19, .ld none [.int .i64 0] (.t 18), none, false, false, [18]⟩,
     ⟨some 20, .mv (.t 0), none, false, false, []⟩,
     ⟨some 21, .mv (.t 3), none, false, false, []⟩,
     ⟨some 22, .bin .sub (.t 21) (.c (.int .i64 1)), none, false, false, [21]⟩,
     ⟨some 23, .ia 1 [.int .i64 0] (.t 20) (.t 22), none, false, false, [20, 22]⟩,
     ⟨some 24, .ld none [.int .i64 0] (.t 23), none, false, false, [23]⟩,
     ⟨some 25, .bin .eql (.t 19) (.t 24), none, false, false, [19, 24]⟩])
    (.cond (.t 25)
     (.seq (.ops 7 false [⟨some 26, .mv (.t 0), none, false, false, []⟩,
      ⟨some 27, .mv (.t 3), none, false, false, []⟩,
      ⟨some 28, .slc 1 (.t 26) (some (.t 27)) none, none, false, false, [26, 27]⟩,
      ⟨some 4, .mv (.t 28), none, false, false, [28]⟩])
     (.seq (.seq (.ops 8 false [⟨some 5, .mv (.c (.int .i64 1)), none, false, false, []⟩])
     (.block 2 (.loop [0, 3, 4, 5] (.seq (.seq (.ops 9 false [⟨some 29, .mv (.t 5), none, false, false, []⟩,
        ⟨some 30, .mv (.t 4), none, false, false, []⟩,
        ⟨some 31, .len (.t 30), none, false, false, [30]⟩,
        ⟨some 32, .bin .lss (.t 29) (.t 31), none, false, false, [29, 31]⟩])
       (.cond (.t 32)
        (.skip)
        (.exit 2)))
       (.seq (.block 3 (.seq (.ops 11 true [⟨some 35, .mv (.t 4), none, false, false, []⟩,
         ⟨some 36, .mv (.t 5), none, false, false, []⟩,
         ⟨some 37, .ia 1 [.int .i64 0] (.t 35) (.t 36), none, false, false, [35, 36]⟩,
         ⟨some 38, .ld none [.int .i64 0] (.t 37), none, false, false, [37]⟩,
         ⟨some 39, .mv (.t 4), none, false, false, []⟩,
         ⟨some 40, .mv (.t 5), none, false, false, []⟩,
         ⟨some 41, .bin .sub (.t 40) (.c (.int .i64 1)), none, false, false, [40]⟩,
         ⟨some 42, .ia 1 [.int .i64 0] (.t 39) (.t 41), none, false, false, [39, 41]⟩,
         ⟨some 43, .ld none [.int .i64 0] (.t 42), none, false, false, [42]⟩,
         ⟨some 44, .bin .neq (.t 38) (.t 43), none, false, false, [38, 43]⟩])
        (.cond (.t 44)
         (.seq (.ops 12 false [⟨some 45, .mv (.t 0), none, false, false, []⟩,
          ⟨some 46, .mv (.t 3), none, false, false, []⟩,
          ⟨some 47, .mv (.t 4), none, false, false, []⟩,
          ⟨some 48, .mv (.t 5), none, false, false, []⟩,
          ⟨some 49, .ia 1 [.int .i64 0] (.t 47) (.t 48), none, false, false, [47, 48]⟩,
          ⟨some 50, .ld none [.int .i64 0] (.t 49), none, false, false, [49]⟩,
          ⟨some 51, .ia 1 [.int .i64 0] (.t 45) (.t 46), none, false, false, [45, 46]⟩,
          ⟨none, .st 1 (.t 51) (.t 50), none, false, false, [50, 51]⟩])
         (.ops 13 false [⟨some 52, .mv (.t 3), none, false, false, [3]⟩,
          ⟨some 53, .bin .add (.t 52) (.c (.int .i64 1)), none, false, false, [52]⟩,
          ⟨some 3, .mv (.t 53), none, false, false, [53]⟩]))
         (.skip))))
       (.ops 10 false [⟨some 33, .mv (.t 5), none, false, false, [5]⟩,
        ⟨some 34, .bin .add (.t 33) (.c (.int .i64 1)), none, false, false, [33]⟩,
        ⟨some 5, .mv (.t 34), none, false, false, [34]⟩]))))))
     (.seq (.ops 14 false [⟨some 54, .mv (.t 0), none, false, false, []⟩,
      ⟨some 55, .mv (.t 3), none, false, false, []⟩,
      ⟨some 56, .slc 1 (.t 54) (some (.t 55)) none, none, false, false, [54, 55]⟩,
      ⟨none, .clr 1 [.int .i64 0] (.t 56), none, false, false, [56]⟩])
     (.seq (.ops 15 false [⟨some 57, .mv (.t 0), none, false, false, [0]⟩,
      ⟨some 58, .mv (.t 3), none, false, false, [3]⟩,
      ⟨some 59, .slc 1 (.t 57) none (some (.t 58)), none, false, false, [57, 58]⟩,
      ⟨some 2, .mv (.t 59), none, false, false, [59]⟩])
     (.ret)))))
     (.skip))))
   (.ops 5 false [⟨some 14, .mv (.t 3), none, false, false, [3]⟩,
    ⟨some 15, .bin .add (.t 14) (.c (.int .i64 1)), none, false, false, [14]⟩,
    ⟨some 3, .mv (.t 15), none, false, false, [15]⟩]))))))
 (.seq (.ops 16 false [⟨some 60, .mv (.t 0), none, false, false, [0]⟩,
  ⟨some 2, .mv (.t 60), none, false, false, [60]⟩])
 (.ret))))
def rs_slices_Compact_int_int : List IRes := [.t 2]
theorem ok_slices_Compact_int_int : fnOk Try.prog 56 ic_slices_Compact_int_int rs_slices_Compact_int_int 61 = true := by kernel_rfl

/-- tallyman/idset.set -/
def ic_idset_set : ICode :=
 .seq (.ops 0 false [⟨some 2, .mv (.c (.nils)), none, false, false, [2]⟩])
 (.seq (.seq (.ops 1 false [⟨some 4, .mv (.t 0), none, false, false, []⟩,
  ⟨some 5, .call (.c (.fn 21 [] [])) [.t 4], none, false, false, [4]⟩])
 (.cond (.t 5)
  (.seq (.ops 2 false [⟨some 6, .mv (.t 0), none, false, false, [0]⟩,
   ⟨some 2, .mv (.t 6), none, false, false, [6]⟩])
  (.ret))
  (.skip)))
 (.seq (.ops 3 false [⟨some 7, .mv (.t 0), none, false, false, [0]⟩,
  ⟨some 8, .call (.c (.fn 54 [] [])) [.t 7], none, false, false, [7]⟩,
  ⟨some 3, .mv (.t 8), none, false, false, [8]⟩])
 (.seq (.ops 4 false [⟨some 9, .mv (.t 3), none, false, false, []⟩,
  ⟨some 10, .call (.c (.fn 55 [] [])) [.t 9], none, false, false, [9, 10]⟩])
 (.seq (.ops 5 false [⟨some 11, .mv (.t 3), none, false, false, [3]⟩,
  ⟨some 12, .call (.c (.fn 56 [] [])) [.t 11], none, false, false, [11]⟩,
  ⟨some 2, .mv (.t 12), none, false, false, [12]⟩])
 (.ret)))))
def rs_idset_set : List IRes := [.t 2]
theorem ok_idset_set : fnOk Try.prog 35 ic_idset_set rs_idset_set 13 = true := by kernel_rfl

/-- tallyman/idset.Of -/
def ic_idset_Of : ICode :=
 .seq (.ops 0 false [⟨some 2, .mv (.c (.nils)), none, false, false, [2]⟩])
 (.seq (.ops 1 false [⟨some 3, .mv (.t 0), none, false, false, [0]⟩,
  ⟨some 4, .call (.c (.fn 35 [] [])) [.t 3], none, false, false, [3]⟩,
  ⟨some 2, .mv (.t 4), none, false, false, [4]⟩])
 (.ret))
def rs_idset_Of : List IRes := [.t 2]
theorem ok_idset_Of : fnOk Try.prog 19 ic_idset_Of rs_idset_Of 5 = true := by kernel_rfl

/-- tallyman/idset.sides -/
def ic_idset_sides : ICode :=
 .seq (.ops 0 false [⟨some 11, .mv (.t 0), none, false, false, [0]⟩,
  ⟨some 12, .call (.c (.fn 35 [] [])) [.t 11], none, false, false, [11]⟩,
  ⟨some 13, .mv (.t 1), none, false, false, [1]⟩,
  ⟨some 14, .call (.c (.fn 35 [] [])) [.t 13], none, false, false, [13]⟩,
  ⟨some 6, .mv (.t 12), none, false, false, [12]⟩,
  ⟨some 7, .mv (.t 14), none, false, false, [14]⟩])
 (.block 0 (.loop [2, 6, 7] (.seq (.seq (.ops 1 false [⟨some 15, .mv (.t 6), none, false, false, []⟩,
    ⟨some 16, .len (.t 15), none, false, false, [15]⟩,
    ⟨some 17, .mv (.t 7), none, false, false, []⟩,
    ⟨some 18, .len (.t 17), none, false, false, [17]⟩,
    ⟨some 19, .bin .add (.t 16) (.t 18), none, false, false, [16, 18]⟩,
    ⟨some 20, .bin .gtr (.t 19) (.c (.int .i64 0)), none, false, false, [19]⟩])
   (.cond (.t 20)
    (.skip)
    (.exit 0)))
   (.block 1 (.seq (.ops 2 true [⟨some 21, .mv (.t 6), none, false, false, []⟩,
     ⟨some 22, .len (.t 21), none, false, false, [21]⟩,
     ⟨some 23, .bin .gtr (.t 22) (.c (.int .i64 0)), none, false, false, [22]⟩,
     ⟨some 24, .mv (.t 23), none, false, false, [23]⟩,
     ⟨some 25, .mv (.t 7), (some (24, true)), true, false, []⟩,
     ⟨some 26, .len (.o 25), (some (24, true)), true, false, [25]⟩,
     ⟨some 27, .bin .eql (.o 26) (.c (.int .i64 0)), (some (24, true)), true, false, [26]⟩,
     ⟨some 28, .mv (.o 27), (some (24, true)), true, false, [27]⟩,
     ⟨some 29, .mv (.t 6), (some (28, false)), true, false, []⟩,
     ⟨some 30, .ia 1 [.int .i64 0] (.o 29) (.c (.int .i64 0)), (some (28, false)), true, false, [29]⟩,
     ⟨some 31, .ld none [.int .i64 0] (.o 30), (some (28, false)), true, false, [30]⟩,
     ⟨some 32, .mv (.t 7), (some (28, false)), true, false, []⟩,
     ⟨some 33, .ia 1 [.int .i64 0] (.o 32) (.c (.int .i64 0)), (some (28, false)), true, false, [32]⟩,
     ⟨some 34, .ld none [.int .i64 0] (.o 33), (some (28, false)), true, false, [33]⟩,
     ⟨some 35, .bin .leq (.o 31) (.o 34), (some (28, false)), true, false, [31, 34]⟩,
     ⟨some 36, .pick (.o 28) (.c (.bool true)) (.t 35), (some (24, true)), true, false, [28, 35]⟩,
     ⟨some 37, .pick (.t 24) (.t 36) (.c (.bool false)), none, false, false, [24, 36]⟩,
     ⟨some 8, .mv (.t 37), none, false, false, [37]⟩])
    (.seq (.ops 3 true [⟨some 38, .mv (.t 7), none, false, false, []⟩,
     ⟨some 39, .len (.t 38), none, false, false, [38]⟩,
     ⟨some 40, .bin .gtr (.t 39) (.c (.int .i64 0)), none, false, false, [39]⟩,
     ⟨some 41, .mv (.t 40), none, false, false, [40]⟩,
     ⟨some 42, .mv (.t 6), (some (41, true)), true, false, []⟩,
     ⟨some 43, .len (.o 42), (some (41, true)), true, false, [42]⟩,
     ⟨some 44, .bin .eql (.o 43) (.c (.int .i64 0)), (some (41, true)), true, false, [43]⟩,
     ⟨some 45, .mv (.o 44), (some (41, true)), true, false, [44]⟩,
     ⟨some 46, .mv (.t 7), (some (45, false)), true, false, []⟩,
     ⟨some 47, .ia 1 [.int .i64 0] (.o 46) (.c (.int .i64 0)), (some (45, false)), true, false, [46]⟩,
     ⟨some 48, .ld none [.int .i64 0] (.o 47), (some (45, false)), true, false, [47]⟩,
     ⟨some 49, .mv (.t 6), (some (45, false)), true, false, []⟩,
     ⟨some 50, .ia 1 [.int .i64 0] (.o 49) (.c (.int .i64 0)), (some (45, false)), true, false, [49]⟩,
     ⟨some 51, .ld none [.int .i64 0] (.o 50), (some (45, false)), true, false, [50]⟩,
     ⟨some 52, .bin .leq (.o 48) (.o 51), (some (45, false)), true, false, [48, 51]⟩,
     ⟨some 53, .pick (.o 45) (.c (.bool true)) (.t 52), (some (41, true)), true, false, [45, 52]⟩,
     ⟨some 54, .pick (.t 41) (.t 53) (.c (.bool false)), none, false, false, [41, 53]⟩,
     ⟨some 9, .mv (.t 54), none, false, false, [54]⟩])
    (.seq (.ops 4 false [⟨some 10, .mv (.c (.int .i64 0)), none, false, false, []⟩])
    (.seq (.seq (.ops 5 false [⟨some 55, .mv (.t 9), none, false, false, []⟩])
    (.cond (.t 55)
     (.ops 6 true [⟨some 56, .mv (.t 7), none, false, false, []⟩,
      ⟨some 57, .ia 1 [.int .i64 0] (.t 56) (.c (.int .i64 0)), none, false, false, [56]⟩,
      ⟨some 58, .ld none [.int .i64 0] (.t 57), none, false, false, [57]⟩,
      ⟨some 59, .mv (.t 7), none, false, false, [7]⟩,
      ⟨some 60, .slc 1 (.t 59) (some (.c (.int .i64 1))) none, none, false, false, [59]⟩,
      ⟨some 10, .mv (.t 58), none, false, false, [58]⟩,
      ⟨some 7, .mv (.t 60), none, false, false, [60]⟩])
     (.skip)))
    (.seq (.seq (.ops 7 false [⟨some 61, .mv (.t 8), none, false, false, []⟩])
    (.cond (.t 61)
     (.ops 8 true [⟨some 62, .mv (.t 6), none, false, false, []⟩,
      ⟨some 63, .ia 1 [.int .i64 0] (.t 62) (.c (.int .i64 0)), none, false, false, [62]⟩,
      ⟨some 64, .ld none [.int .i64 0] (.t 63), none, false, false, [63]⟩,
      ⟨some 65, .mv (.t 6), none, false, false, [6]⟩,
      ⟨some 66, .slc 1 (.t 65) (some (.c (.int .i64 1))) none, none, false, false, [65]⟩,
      ⟨some 10, .mv (.t 64), none, false, false, [64]⟩,
      ⟨some 6, .mv (.t 66), none, false, false, [66]⟩])
     (.skip)))
    (.ops 9 false [⟨some 67, .mv (.t 2), none, false, false, []⟩,
     ⟨some 68, .mv (.t 10), none, false, false, [10]⟩,
     ⟨some 69, .mv (.t 8), none, false, false, [8]⟩,
     ⟨some 70, .mv (.t 9), none, false, false, [9]⟩,
     ⟨some 71, .call (.t 67) [.t 68, .t 69, .t 70], none, false, false, [67, 68, 69, 70, 71]⟩]))))))))))
def rs_idset_sides : List IRes := []
theorem ok_idset_sides : fnOk Try.prog 52 ic_idset_sides rs_idset_sides 72 = true := by kernel_rfl

/-- tallyman/idset.pick$1 -/
def ic_idset_pick_1 : ICode :=
 .seq (.ops 0 false [⟨some 8, .ld none [] (.t 3), none, false, false, [3]⟩,
  ⟨some 9, .mv (.t 1), none, false, false, [1]⟩,
  ⟨some 10, .mv (.t 2), none, false, false, [2]⟩,
  ⟨some 11, .call (.t 8) [.t 9, .t 10], none, false, false, [8, 9, 10]⟩])
 (.cond (.t 11)
  (.ops 1 false [⟨some 12, .ld none [] (.t 4), none, false, false, []⟩,
   ⟨some 13, .mv (.t 0), none, false, false, [0]⟩,
   ⟨some 14, .rowView 1 [.t 13], none, false, false, [13]⟩,
   ⟨some 15, .app 1 (.t 12) (.t 14), none, false, false, [12, 14]⟩,
   ⟨none, .st 1 (.t 4) (.t 15), none, false, false, [4, 15]⟩])
  (.skip))
def rs_idset_pick_1 : List IRes := []
theorem ok_idset_pick_1 : fnOk Try.prog 53 ic_idset_pick_1 rs_idset_pick_1 16 = true := by kernel_rfl

/-- tallyman/idset.pick -/
def ic_idset_pick : ICode :=
 .seq (.ops 0 false [⟨some 5, .box (.t 2), none, false, false, [2]⟩,
  ⟨some 6, .mv (.c (.nils)), none, false, false, [6]⟩])
 (.seq (.ops 1 false [⟨some 7, .alloc [.nils], none, false, false, []⟩])
 (.seq (.ops 2 false [⟨some 8, .mv (.t 0), none, false, false, [0]⟩,
  ⟨some 9, .mv (.t 1), none, false, false, [1]⟩,
  ⟨some 10, .mkfn 53 [] [.t 5, .t 7], none, false, false, [5]⟩,
  ⟨some 11, .call (.c (.fn 52 [] [])) [.t 8, .t 9, .t 10], none, false, false, [8, 9, 10, 11]⟩])
 (.seq (.ops 3 false [⟨some 12, .ld none [] (.t 7), none, false, false, [7]⟩,
  ⟨some 6, .mv (.t 12), none, false, false, [12]⟩])
 (.ret))))
def rs_idset_pick : List IRes := [.t 6]
theorem ok_idset_pick : fnOk Try.prog 30 ic_idset_pick rs_idset_pick 13 = true := by kernel_rfl

/-- tallyman/idset.Or$1 -/
def ic_idset_Or_1 : ICode :=
 .seq (.ops 0 false [⟨some 4, .mv (.c (.bool false)), none, false, false, [4]⟩])
 (.seq (.ops 1 false [⟨some 5, .mv (.t 0), none, false, false, [0]⟩,
  ⟨some 6, .mv (.t 5), none, false, false, [5]⟩,
  ⟨some 7, .mv (.t 1), (some (6, false)), true, false, [1]⟩,
  ⟨some 8, .pick (.t 6) (.c (.bool true)) (.t 7), none, false, false, [6, 7]⟩,
  ⟨some 4, .mv (.t 8), none, false, false, [8]⟩])
 (.ret))
def rs_idset_Or_1 : List IRes := [.t 4]
theorem ok_idset_Or_1 : fnOk Try.prog 31 ic_idset_Or_1 rs_idset_Or_1 9 = true := by kernel_rfl

/-- tallyman/idset.And$1 -/
def ic_idset_And_1 : ICode :=
 .seq (.ops 0 false [⟨some 4, .mv (.c (.bool false)), none, false, false, [4]⟩])
 (.seq (.ops 1 false [⟨some 5, .mv (.t 0), none, false, false, [0]⟩,
  ⟨some 6, .mv (.t 5), none, false, false, [5]⟩,
  ⟨some 7, .mv (.t 1), (some (6, true)), true, false, [1]⟩,
  ⟨some 8, .pick (.t 6) (.t 7) (.c (.bool false)), none, false, false, [6, 7]⟩,
  ⟨some 4, .mv (.t 8), none, false, false, [8]⟩])
 (.ret))
def rs_idset_And_1 : List IRes := [.t 4]
theorem ok_idset_And_1 : fnOk Try.prog 32 ic_idset_And_1 rs_idset_And_1 9 = true := by kernel_rfl

/-- tallyman/idset.Less$1 -/
def ic_idset_Less_1 : ICode :=
 .seq (.ops 0 false [⟨some 4, .mv (.c (.bool false)), none, false, false, [4]⟩])
 (.seq (.ops 1 false [⟨some 5, .mv (.t 0), none, false, false, [0]⟩,
  ⟨some 6, .mv (.t 5), none, false, false, [5]⟩,
  ⟨some 7, .mv (.t 1), (some (6, true)), true, false, [1]⟩,
  ⟨some 8, .not (.o 7), (some (6, true)), true, false, [7]⟩,
  ⟨some 9, .pick (.t 6) (.t 8) (.c (.bool false)), none, false, false, [6, 8]⟩,
  ⟨some 4, .mv (.t 9), none, false, false, [9]⟩])
 (.ret))
def rs_idset_Less_1 : List IRes := [.t 4]
theorem ok_idset_Less_1 : fnOk Try.prog 34 ic_idset_Less_1 rs_idset_Less_1 10 = true := by kernel_rfl

/-- tallyman/idset.Or -/
def ic_idset_Or : ICode :=
 .seq (.ops 0 false [⟨some 4, .mv (.c (.nils)), none, false, false, [4]⟩])
 (.seq (.ops 1 false [⟨some 5, .mv (.t 0), none, false, false, [0]⟩,
  ⟨some 6, .mv (.t 1), none, false, false, [1]⟩,
  ⟨some 7, .call (.c (.fn 30 [] [])) [.t 5, .t 6, .c (.fn 31 [] [])], none, false, false, [5, 6]⟩,
  ⟨some 4, .mv (.t 7), none, false, false, [7]⟩])
 (.ret))
def rs_idset_Or : List IRes := [.t 4]
theorem ok_idset_Or : fnOk Try.prog 12 ic_idset_Or rs_idset_Or 8 = true := by kernel_rfl

/-- tallyman/idset.And -/
def ic_idset_And : ICode :=
 .seq (.ops 0 false [⟨some 4, .mv (.c (.nils)), none, false, false, [4]⟩])
 (.seq (.ops 1 false [⟨some 5, .mv (.t 0), none, false, false, [0]⟩,
  ⟨some 6, .mv (.t 1), none, false, false, [1]⟩,
  ⟨some 7, .call (.c (.fn 30 [] [])) [.t 5, .t 6, .c (.fn 32 [] [])], none, false, false, [5, 6]⟩,
  ⟨some 4, .mv (.t 7), none, false, false, [7]⟩])
 (.ret))
def rs_idset_And : List IRes := [.t 4]
theorem ok_idset_And : fnOk Try.prog 14 ic_idset_And rs_idset_And 8 = true := by kernel_rfl

/-- tallyman/idset.Less -/
def ic_idset_Less : ICode :=
 .seq (.ops 0 false [⟨some 4, .mv (.c (.nils)), none, false, false, [4]⟩])
 (.seq (.ops 1 false [⟨some 5, .mv (.t 0), none, false, false, [0]⟩,
  ⟨some 6, .mv (.t 1), none, false, false, [1]⟩,
  ⟨some 7, .call (.c (.fn 30 [] [])) [.t 5, .t 6, .c (.fn 34 [] [])], none, false, false, [5, 6]⟩,
  ⟨some 4, .mv (.t 7), none, false, false, [7]⟩])
 (.ret))
def rs_idset_Less : List IRes := [.t 4]
theorem ok_idset_Less : fnOk Try.prog 16 ic_idset_Less rs_idset_Less 8 = true := by kernel_rfl

/-- tallyman/idset.Within -/
def ic_idset_Within : ICode :=
 .seq (.ops 0 false [⟨some 4, .mv (.c (.bool false)), none, false, false, [4]⟩])
 (.seq (.ops 1 false [⟨some 5, .mv (.t 0), none, false, false, [0]⟩,
  ⟨some 6, .mv (.t 1), none, false, false, [1]⟩,
  ⟨some 7, .call (.c (.fn 16 [] [])) [.t 5, .t 6], none, false, false, [5, 6]⟩,
  ⟨some 8, .len (.t 7), none, false, false, [7]⟩,
  ⟨some 9, .bin .eql (.t 8) (.c (.int .i64 0)), none, false, false, [8]⟩,
  ⟨some 4, .mv (.t 9), none, false, false, [9]⟩])
 (.ret))
def rs_idset_Within : List IRes := [.t 4]
theorem ok_idset_Within : fnOk Try.prog 18 ic_idset_Within rs_idset_Within 10 = true := by kernel_rfl

/-- tallyman/idset.Above -/
def ic_idset_Above : ICode :=
 .seq (.ops 0 false [⟨some 4, .mv (.c (.int .i64 0)), none, false, false, [4]⟩,
  ⟨some 5, .mv (.c (.bool false)), none, false, false, [5]⟩])
 (.seq (.ops 1 false [⟨some 6, .mv (.c (.int .i64 0)), none, false, false, []⟩,
  ⟨some 7, .mv (.c (.bool false)), none, false, false, []⟩])
 (.seq (.seq (.ops 2 false [⟨some 10, .mv (.t 0), none, false, false, [0]⟩,
  ⟨some 11, .len (.t 10), none, false, false, []⟩,
  ⟨some 12, .mv (.c (.int .i64 0)), none, false, false, []⟩])
 (.block 0 (.loop [1, 6, 7, 10, 11, 12] (.seq (.ops 3 false [⟨some 13, .bin .lss (.t 12) (.t 11), none, false, false, []⟩])
   (.seq (.cond (.t 13)
    (.skip)
    (.exit 0))
   (.seq (.block 1 (.seq (.ops 4 false [⟨some 14, .ia 1 [.int .i64 0] (.t 10) (.t 12), none, false, false, []⟩,
     ⟨some 15, .ld none [.int .i64 0] (.t 14), none, false, false, [14]⟩,
     ⟨some 9, .mv (.t 15), none, false, false, [15]⟩])
    (.seq (.ops 5 false [⟨some 16, .mv (.t 9), none, false, false, []⟩,
     ⟨some 17, .mv (.t 1), none, false, false, []⟩,
     ⟨some 18, .bin .gtr (.t 16) (.t 17), none, false, false, [16, 17]⟩,
     ⟨some 19, .mv (.t 18), none, false, false, [18]⟩,
     ⟨some 20, .mv (.t 7), (some (19, true)), true, false, []⟩,
     ⟨some 21, .not (.o 20), (some (19, true)), true, false, [20]⟩,
     ⟨some 22, .mv (.o 21), (some (19, true)), true, false, [21]⟩,
     ⟨some 23, .mv (.t 9), (some (22, false)), true, false, []⟩,
     ⟨some 24, .mv (.t 6), (some (22, false)), true, false, []⟩,
     ⟨some 25, .bin .lss (.o 23) (.o 24), (some (22, false)), true, false, [23, 24]⟩,
     ⟨some 26, .pick (.o 22) (.c (.bool true)) (.t 25), (some (19, true)), true, false, [22, 25]⟩,
     ⟨some 27, .pick (.t 19) (.t 26) (.c (.bool false)), none, false, false, [19, 26]⟩])
    (.cond (.t 27)
     (.ops 6 false [⟨some 28, .mv (.t 9), none, false, false, [9]⟩,
      ⟨some 6, .mv (.t 28), none, false, false, [28]⟩,
      ⟨some 7, .mv (.c (.bool true)), none, false, false, []⟩])
     (.skip)))))
   (.ops 7 false [⟨some 29, .bin .add (.t 12) (.c (.int .i64 1)), none, false, false, [12]⟩,
    ⟨some 12, .mv (.t 29), none, false, false, [29]⟩])))))))
 (.seq (.ops 8 false [⟨some 30, .mv (.t 6), none, false, false, [6]⟩,
  ⟨some 31, .mv (.t 7), none, false, false, [7]⟩,
  ⟨some 4, .mv (.t 30), none, false, false, [30]⟩,
  ⟨some 5, .mv (.t 31), none, false, false, [31]⟩])
 (.ret))))
def rs_idset_Above : List IRes := [.t 4, .t 5]
theorem ok_idset_Above : fnOk Try.prog 9 ic_idset_Above rs_idset_Above 32 = true := by kernel_rfl

/-- tallyman/tallymanref16.Set -/
def ic_r16_Set : ICode :=
 .seq (.ops 0 false [⟨some 2, .mv (.c (.nils)), none, false, false, [2]⟩])
 (.seq (.ops 1 false [⟨some 3, .mv (.c (.nils)), none, false, false, []⟩])
 (.seq (.seq (.ops 2 false [⟨some 4, .mv (.c (.int .i64 0)), none, false, false, []⟩])
 (.block 0 (.loop [0, 3, 4] (.seq (.seq (.ops 3 false [⟨some 8, .mv (.t 4), none, false, false, []⟩,
    ⟨some 9, .mv (.t 0), none, false, false, []⟩,
    ⟨some 10, .len (.t 9), none, false, false, [9]⟩,
    ⟨some 11, .bin .lss (.t 8) (.t 10), none, false, false, [8, 10]⟩])
   (.cond (.t 11)
    (.skip)
    (.exit 0)))
   (.seq (.block 1 (.seq (.ops 5 false [⟨some 5, .mv (.c (.nils)), none, false, false, []⟩])
    (.seq (.ops 6 false [⟨some 6, .mv (.c (.bool false)), none, false, false, []⟩])
    (.seq (.seq (.ops 7 false [⟨some 7, .mv (.c (.int .i64 0)), none, false, false, []⟩])
    (.block 2 (.loop [0, 3, 4, 5, 6, 7] (.seq (.seq (.ops 8 false [⟨some 14, .mv (.t 7), none, false, false, []⟩,
       ⟨some 15, .mv (.t 3), none, false, false, []⟩,
       ⟨some 16, .len (.t 15), none, false, false, [15]⟩,
       ⟨some 17, .bin .lss (.t 14) (.t 16), none, false, false, [14, 16]⟩])
      (.cond (.t 17)
       (.skip)
       (.exit 2)))
      (.seq (.block 3 (.seq (.seq (.ops 10 true [⟨some 20, .mv (.t 6), none, false, false, []⟩,
        ⟨some 21, .not (.t 20), none, false, false, [20]⟩,
        ⟨some 22, .mv (.t 21), none, false, false, [21]⟩,
        ⟨some 23, .mv (.t 0), (some (22, true)), true, false, []⟩,
        ⟨some 24, .mv (.t 4), (some (22, true)), true, false, []⟩,
        ⟨some 25, .ia 1 [.int .i64 0] (.o 23) (.o 24), (some (22, true)), true, false, [23, 24]⟩,
        ⟨some 26, .ld none [.int .i64 0] (.o 25), (some (22, true)), true, false, [25]⟩,
        ⟨some 27, .mv (.t 3), (some (22, true)), true, false, []⟩,
        ⟨some 28, .mv (.t 7), (some (22, true)), true, false, []⟩,
        ⟨some 29, .ia 1 [.int .i64 0] (.o 27) (.o 28), (some (22, true)), true, false, [27, 28]⟩,
        ⟨some 30, .ld none [.int .i64 0] (.o 29), (some (22, true)), true, false, [29]⟩,
        ⟨some 31, .bin .leq (.o 26) (.o 30), (some (22, true)), true, false, [26, 30]⟩,
        ⟨some 32, .pick (.t 22) (.t 31) (.c (.bool false)), none, false, false, [22, 31]⟩])
       (.cond (.t 32)
        (.seq (.ops 11 false [⟨some 33, .mv (.t 5), none, false, false, [5]⟩,
         ⟨some 34, .mv (.t 0), none, false, false, []⟩,
         ⟨some 35, .mv (.t 4), none, false, false, []⟩,
         ⟨some 36, .ia 1 [.int .i64 0] (.t 34) (.t 35), none, false, false, [34, 35]⟩,
         ⟨some 37, .ld none [.int .i64 0] (.t 36), none, false, false, [36]⟩,
         ⟨some 38, .rowView 1 [.t 37], none, false, false, [37]⟩,
         ⟨some 39, .app 1 (.t 33) (.t 38), none, false, false, [33, 38]⟩,
         ⟨some 5, .mv (.t 39), none, false, false, [39]⟩])
        (.ops 12 false [⟨some 6, .mv (.c (.bool true)), none, false, false, []⟩]))
        (.skip)))
       (.seq (.ops 13 true [⟨some 40, .mv (.t 3), none, false, false, []⟩,
        ⟨some 41, .mv (.t 7), none, false, false, []⟩,
        ⟨some 42, .ia 1 [.int .i64 0] (.t 40) (.t 41), none, false, false, [40, 41]⟩,
        ⟨some 43, .ld none [.int .i64 0] (.t 42), none, false, false, [42]⟩,
        ⟨some 44, .mv (.t 0), none, false, false, []⟩,
        ⟨some 45, .mv (.t 4), none, false, false, []⟩,
        ⟨some 46, .ia 1 [.int .i64 0] (.t 44) (.t 45), none, false, false, [44, 45]⟩,
        ⟨some 47, .ld none [.int .i64 0] (.t 46), none, false, false, [46]⟩,
        ⟨some 48, .bin .neq (.t 43) (.t 47), none, false, false, [43, 47]⟩])
       (.cond (.t 48)
        (.ops 14 false [⟨some 49, .mv (.t 5), none, false, false, [5]⟩,
         ⟨some 50, .mv (.t 3), none, false, false, []⟩,
         ⟨some 51, .mv (.t 7), none, false, false, []⟩,
         ⟨some 52, .ia 1 [.int .i64 0] (.t 50) (.t 51), none, false, false, [50, 51]⟩,
         ⟨some 53, .ld none [.int .i64 0] (.t 52), none, false, false, [52]⟩,
         ⟨some 54, .rowView 1 [.t 53], none, false, false, [53]⟩,
         ⟨some 55, .app 1 (.t 49) (.t 54), none, false, false, [49, 54]⟩,
         ⟨some 5, .mv (.t 55), none, false, false, [55]⟩])
        (.skip)))))
      (.ops 9 false [⟨some 18, .mv (.t 7), none, false, false, [7]⟩,
       ⟨some 19, .bin .add (.t 18) (.c (.int .i64 1)), none, false, false, [18]⟩,
       ⟨some 7, .mv (.t 19), none, false, false, [19]⟩]))))))
    (.seq (.seq (.ops 15 false [⟨some 56, .mv (.t 6), none, false, false, [6]⟩,
     ⟨some 57, .not (.t 56), none, false, false, [56]⟩])
    (.cond (.t 57)
     (.ops 16 false [⟨some 58, .mv (.t 5), none, false, false, [5]⟩,
      ⟨some 59, .mv (.t 0), none, false, false, []⟩,
      ⟨some 60, .mv (.t 4), none, false, false, []⟩,
      ⟨some 61, .ia 1 [.int .i64 0] (.t 59) (.t 60), none, false, false, [59, 60]⟩,
      ⟨some 62, .ld none [.int .i64 0] (.t 61), none, false, false, [61]⟩,
      ⟨some 63, .rowView 1 [.t 62], none, false, false, [62]⟩,
      ⟨some 64, .app 1 (.t 58) (.t 63), none, false, false, [58, 63]⟩,
      ⟨some 5, .mv (.t 64), none, false, false, [64]⟩])
     (.skip)))
    (.ops 17 false [⟨some 65, .mv (.t 5), none, false, false, [5]⟩,
     ⟨some 3, .mv (.t 65), none, false, false, [65]⟩]))))))
   (.ops 4 false [⟨some 12, .mv (.t 4), none, false, false, [4]⟩,
    ⟨some 13, .bin .add (.t 12) (.c (.int .i64 1)), none, false, false, [12]⟩,
    ⟨some 4, .mv (.t 13), none, false, false, [13]⟩]))))))
 (.seq (.ops 18 false [⟨some 66, .mv (.t 3), none, false, false, [3]⟩,
  ⟨some 2, .mv (.t 66), none, false, false, [66]⟩])
 (.ret))))
def rs_r16_Set : List IRes := [.t 2]
theorem ok_r16_Set : fnOk Try.prog 20 ic_r16_Set rs_r16_Set 67 = true := by kernel_rfl

/-- tallyman/tallymanref17.pick -/
def ic_r17_pick : ICode :=
 .seq (.ops 0 false [⟨some 6, .mv (.c (.nils)), none, false, false, [6]⟩])
 (.seq (.ops 1 false [⟨some 10, .mv (.t 0), none, false, false, [0]⟩,
  ⟨some 11, .call (.c (.fn 20 [] [])) [.t 10], none, false, false, [10]⟩,
  ⟨some 7, .mv (.t 11), none, false, false, [11]⟩])
 (.seq (.ops 2 false [⟨some 8, .mv (.c (.nils)), none, false, false, []⟩])
 (.seq (.seq (.ops 3 false [⟨some 9, .mv (.c (.int .i64 0)), none, false, false, []⟩])
 (.block 0 (.loop [1, 2, 7, 8, 9] (.seq (.seq (.ops 4 false [⟨some 12, .mv (.t 9), none, false, false, []⟩,
    ⟨some 13, .mv (.t 7), none, false, false, []⟩,
    ⟨some 14, .len (.t 13), none, false, false, [13]⟩,
    ⟨some 15, .bin .lss (.t 12) (.t 14), none, false, false, [12, 14]⟩])
   (.cond (.t 15)
    (.skip)
    (.exit 0)))
   (.seq (.block 1 (.seq (.ops 6 false [⟨some 18, .mv (.t 1), none, false, false, []⟩,
     ⟨some 19, .mv (.t 7), none, false, false, []⟩,
     ⟨some 20, .mv (.t 9), none, false, false, []⟩,
     ⟨some 21, .ia 1 [.int .i64 0] (.t 19) (.t 20), none, false, false, [19, 20]⟩,
     ⟨some 22, .ld none [.int .i64 0] (.t 21), none, false, false, [21]⟩,
     ⟨some 23, .call (.c (.fn 24 [] [])) [.t 18, .t 22], none, false, false, [18, 22]⟩,
     ⟨some 24, .mv (.t 2), none, false, false, []⟩,
     ⟨some 25, .eqb false (.t 23) (.t 24), none, false, false, [23, 24]⟩])
    (.cond (.t 25)
     (.ops 7 false [⟨some 26, .mv (.t 8), none, false, false, [8]⟩,
      ⟨some 27, .mv (.t 7), none, false, false, []⟩,
      ⟨some 28, .mv (.t 9), none, false, false, []⟩,
      ⟨some 29, .ia 1 [.int .i64 0] (.t 27) (.t 28), none, false, false, [27, 28]⟩,
      ⟨some 30, .ld none [.int .i64 0] (.t 29), none, false, false, [29]⟩,
      ⟨some 31, .rowView 1 [.t 30], none, false, false, [30]⟩,
      ⟨some 32, .app 1 (.t 26) (.t 31), none, false, false, [26, 31]⟩,
      ⟨some 8, .mv (.t 32), none, false, false, [32]⟩])
     (.skip))))
   (.ops 5 false [⟨some 16, .mv (.t 9), none, false, false, [9]⟩,
    ⟨some 17, .bin .add (.t 16) (.c (.int .i64 1)), none, false, false, [16]⟩,
    ⟨some 9, .mv (.t 17), none, false, false, [17]⟩]))))))
 (.seq (.ops 8 false [⟨some 33, .mv (.t 8), none, false, false, [8]⟩,
  ⟨some 6, .mv (.t 33), none, false, false, [33]⟩])
 (.ret)))))
def rs_r17_pick : List IRes := [.t 6]
theorem ok_r17_pick : fnOk Try.prog 33 ic_r17_pick rs_r17_pick 34 = true := by kernel_rfl

/-- tallyman/tallymanref17.Or -/
def ic_r17_Or : ICode :=
 .seq (.ops 0 false [⟨some 4, .mv (.c (.nils)), none, false, false, [4]⟩])
 (.seq (.ops 1 false [⟨some 5, .rowOwn 1 [], none, false, false, []⟩,
  ⟨some 6, .mv (.t 0), none, false, false, [0]⟩,
  ⟨some 7, .app 1 (.t 5) (.t 6), none, false, false, [5, 6]⟩,
  ⟨some 8, .mv (.t 1), none, false, false, [1]⟩,
  ⟨some 9, .app 1 (.t 7) (.t 8), none, false, false, [7, 8]⟩,
  ⟨some 10, .call (.c (.fn 20 [] [])) [.t 9], none, false, false, [9]⟩,
  ⟨some 4, .mv (.t 10), none, false, false, [10]⟩])
 (.ret))
def rs_r17_Or : List IRes := [.t 4]
theorem ok_r17_Or : fnOk Try.prog 13 ic_r17_Or rs_r17_Or 11 = true := by kernel_rfl

/-- tallyman/tallymanref17.And -/
def ic_r17_And : ICode :=
 .seq (.ops 0 false [⟨some 4, .mv (.c (.nils)), none, false, false, [4]⟩])
 (.seq (.ops 1 false [⟨some 5, .mv (.t 0), none, false, false, [0]⟩,
  ⟨some 6, .mv (.t 1), none, false, false, [1]⟩,
  ⟨some 7, .call (.c (.fn 33 [] [])) [.t 5, .t 6, .c (.bool true)], none, false, false, [5, 6]⟩,
  ⟨some 4, .mv (.t 7), none, false, false, [7]⟩])
 (.ret))
def rs_r17_And : List IRes := [.t 4]
theorem ok_r17_And : fnOk Try.prog 15 ic_r17_And rs_r17_And 8 = true := by kernel_rfl

/-- tallyman/tallymanref17.Less -/
def ic_r17_Less : ICode :=
 .seq (.ops 0 false [⟨some 4, .mv (.c (.nils)), none, false, false, [4]⟩])
 (.seq (.ops 1 false [⟨some 5, .mv (.t 0), none, false, false, [0]⟩,
  ⟨some 6, .mv (.t 1), none, false, false, [1]⟩,
  ⟨some 7, .call (.c (.fn 33 [] [])) [.t 5, .t 6, .c (.bool false)], none, false, false, [5, 6]⟩,
  ⟨some 4, .mv (.t 7), none, false, false, [7]⟩])
 (.ret))
def rs_r17_Less : List IRes := [.t 4]
theorem ok_r17_Less : fnOk Try.prog 17 ic_r17_Less rs_r17_Less 8 = true := by kernel_rfl

/-- tallyman/tallymanref17.Above -/
def ic_r17_Above : ICode :=
 .seq (.ops 0 false [⟨some 4, .mv (.c (.int .i64 0)), none, false, false, [4]⟩,
  ⟨some 5, .mv (.c (.bool false)), none, false, false, [5]⟩])
 (.seq (.ops 1 false [⟨some 8, .mv (.t 0), none, false, false, [0]⟩,
  ⟨some 9, .call (.c (.fn 20 [] [])) [.t 8], none, false, false, [8]⟩,
  ⟨some 6, .mv (.t 9), none, false, false, [9]⟩])
 (.seq (.seq (.ops 2 false [⟨some 7, .mv (.c (.int .i64 0)), none, false, false, []⟩])
 (.block 0 (.loop [1, 6, 7] (.seq (.seq (.ops 3 false [⟨some 10, .mv (.t 7), none, false, false, []⟩,
    ⟨some 11, .mv (.t 6), none, false, false, []⟩,
    ⟨some 12, .len (.t 11), none, false, false, [11]⟩,
    ⟨some 13, .bin .lss (.t 10) (.t 12), none, false, false, [10, 12]⟩])
   (.cond (.t 13)
    (.skip)
    (.exit 0)))
   (.seq (.block 1 (.seq (.ops 5 false [⟨some 16, .mv (.t 6), none, false, false, []⟩,
     ⟨some 17, .mv (.t 7), none, false, false, []⟩,
     ⟨some 18, .ia 1 [.int .i64 0] (.t 16) (.t 17), none, false, false, [16, 17]⟩,
     ⟨some 19, .ld none [.int .i64 0] (.t 18), none, false, false, [18]⟩,
     ⟨some 20, .mv (.t 1), none, false, false, []⟩,
     ⟨some 21, .bin .gtr (.t 19) (.t 20), none, false, false, [19, 20]⟩])
    (.cond (.t 21)
     (.seq (.ops 6 false [⟨some 22, .mv (.t 6), none, false, false, [6]⟩,
      ⟨some 23, .mv (.t 7), none, false, false, [7]⟩,
      ⟨some 24, .ia 1 [.int .i64 0] (.t 22) (.t 23), none, false, false, [22, 23]⟩,
      ⟨some 25, .ld none [.int .i64 0] (.t 24), none, false, false, [24]⟩,
      ⟨some 4, .mv (.t 25), none, false, false, [25]⟩,
      ⟨some 5, .mv (.c (.bool true)), none, false, false, []⟩])
     (.ret))
     (.skip))))
   (.ops 4 false [⟨some 14, .mv (.t 7), none, false, false, [7]⟩,
    ⟨some 15, .bin .add (.t 14) (.c (.int .i64 1)), none, false, false, [14]⟩,
    ⟨some 7, .mv (.t 15), none, false, false, [15]⟩]))))))
 (.seq (.ops 7 false [⟨some 4, .mv (.c (.int .i64 0)), none, false, false, []⟩,
  ⟨some 5, .mv (.c (.bool false)), none, false, false, []⟩])
 (.ret))))
def rs_r17_Above : List IRes := [.t 4, .t 5]
theorem ok_r17_Above : fnOk Try.prog 10 ic_r17_Above rs_r17_Above 26 = true := by kernel_rfl

/-- tallyman/tallymanlaw17.alive -/
def ic_l17_alive : ICode :=
 .seq (.ops 0 false [⟨some 0, .mv (.c (.bool false)), none, false, false, [0]⟩])
 (.seq (.ops 1 false [⟨some 4, .rowView 1 [.c (.int .i64 9), .c (.int .i64 4)], none, false, false, []⟩,
  ⟨some 5, .call (.c (.fn 9 [] [])) [.t 4, .c (.int .i64 4)], none, false, false, [4]⟩,
  ⟨some 3, .mv (.t 5), none, false, false, [5]⟩,
  ⟨some 6, .ext 0 (.t 3), none, false, false, []⟩,
  ⟨some 7, .ext 1 (.t 3), none, false, false, [3]⟩,
  ⟨some 1, .mv (.t 6), none, false, false, [6]⟩,
  ⟨some 2, .mv (.t 7), none, false, false, [7]⟩])
 (.seq (.ops 2 false [⟨some 8, .rowView 1 [.c (.int .i64 3), .c (.int .i64 1)], none, false, false, []⟩,
  ⟨some 9, .rowView 1 [.c (.int .i64 2), .c (.int .i64 3)], none, false, false, []⟩,
  ⟨some 10, .call (.c (.fn 12 [] [])) [.t 8, .t 9], none, false, false, [8, 9]⟩,
  ⟨some 11, .rowView 1 [.c (.int .i64 1), .c (.int .i64 2), .c (.int .i64 3)], none, false, false, []⟩,
  ⟨some 12, .call (.c (.fn 11 [] [])) [.t 10, .t 11], none, false, false, [10, 11]⟩,
  ⟨some 13, .mv (.t 12), none, false, false, [12]⟩,
  ⟨some 14, .rowView 1 [.c (.int .i64 5), .c (.int .i64 5), .c (.int .i64 1)], (some (13, true)), true, false, []⟩,
  ⟨some 15, .call (.c (.fn 19 [] [])) [.o 14], (some (13, true)), true, false, [14]⟩,
  ⟨some 16, .rowView 1 [.c (.int .i64 1), .c (.int .i64 5)], (some (13, true)), true, false, []⟩,
  ⟨some 17, .call (.c (.fn 11 [] [])) [.o 15, .o 16], (some (13, true)), true, false, [15, 16]⟩,
  ⟨some 18, .pick (.t 13) (.t 17) (.c (.bool false)), none, false, false, [13, 17]⟩,
  ⟨some 19, .mv (.t 18), none, false, false, [18]⟩,
  ⟨some 20, .mv (.t 1), (some (19, true)), true, false, [1]⟩,
  ⟨some 21, .bin .eql (.o 20) (.c (.int .i64 9)), (some (19, true)), true, false, [20]⟩,
  ⟨some 22, .pick (.t 19) (.t 21) (.c (.bool false)), none, false, false, [19, 21]⟩,
  ⟨some 23, .mv (.t 22), none, false, false, [22]⟩,
  ⟨some 24, .mv (.t 2), (some (23, true)), true, false, [2]⟩,
  ⟨some 25, .pick (.t 23) (.t 24) (.c (.bool false)), none, false, false, [23, 24]⟩,
  ⟨some 26, .mv (.t 25), none, false, false, [25]⟩,
  ⟨some 27, .rowView 1 [.c (.int .i64 1), .c (.int .i64 5)], (some (26, true)), true, false, []⟩,
  ⟨some 28, .call (.c (.fn 21 [] [])) [.o 27], (some (26, true)), true, false, [27]⟩,
  ⟨some 29, .pick (.t 26) (.t 28) (.c (.bool false)), none, false, false, [26, 28]⟩,
  ⟨some 30, .mv (.t 29), none, false, false, [29]⟩,
  ⟨some 31, .rowView 1 [.c (.int .i64 5), .c (.int .i64 5)], (some (30, true)), true, false, []⟩,
  ⟨some 32, .call (.c (.fn 21 [] [])) [.o 31], (some (30, true)), true, false, [31]⟩,
  ⟨some 33, .not (.o 32), (some (30, true)), true, false, [32]⟩,
  ⟨some 34, .pick (.t 30) (.t 33) (.c (.bool false)), none, false, false, [30, 33]⟩,
  ⟨some 0, .mv (.t 34), none, false, false, [34]⟩])
 (.ret)))
def rs_l17_alive : List IRes := [.t 0]
theorem ok_l17_alive : fnOk Try.prog 8 ic_l17_alive rs_l17_alive 35 = true := by kernel_rfl

/-- tallyman/tallymanlaw17.IdsetOps -/
def ic_l17_IdsetOps : ICode :=
 .seq (.ops 0 false [⟨some 6, .mv (.c (.bool false)), none, false, false, [6]⟩])
 (.seq (.seq (.ops 1 false [⟨some 11, .mv (.t 0), none, false, false, []⟩,
  ⟨some 12, .len (.t 11), none, false, false, [11]⟩,
  ⟨some 13, .bin .gtr (.t 12) (.c (.int .i64 60)), none, false, false, [12]⟩,
  ⟨some 14, .mv (.t 13), none, false, false, [13]⟩,
  ⟨some 15, .mv (.t 1), (some (14, false)), true, false, []⟩,
  ⟨some 16, .len (.o 15), (some (14, false)), true, false, [15]⟩,
  ⟨some 17, .bin .gtr (.o 16) (.c (.int .i64 60)), (some (14, false)), true, false, [16]⟩,
  ⟨some 18, .pick (.t 14) (.c (.bool true)) (.t 17), none, false, false, [14, 17]⟩])
 (.cond (.t 18)
  (.seq (.ops 2 false [⟨some 19, .call (.c (.fn 8 [] [])) [], none, false, false, []⟩,
   ⟨some 6, .mv (.t 19), none, false, false, [19]⟩])
  (.ret))
  (.skip)))
 (.seq (.ops 3 false [⟨some 21, .mv (.t 0), none, false, false, []⟩,
  ⟨some 22, .mv (.t 2), none, false, false, []⟩,
  ⟨some 23, .call (.c (.fn 9 [] [])) [.t 21, .t 22], none, false, false, [21, 22]⟩,
  ⟨some 20, .mv (.t 23), none, false, false, [23]⟩,
  ⟨some 24, .ext 0 (.t 20), none, false, false, []⟩,
  ⟨some 25, .ext 1 (.t 20), none, false, false, [20]⟩,
  ⟨some 7, .mv (.t 24), none, false, false, [24]⟩,
  ⟨some 8, .mv (.t 25), none, false, false, [25]⟩])
 (.seq (.ops 4 false [⟨some 27, .mv (.t 0), none, false, false, []⟩,
  ⟨some 28, .mv (.t 2), none, false, false, [2]⟩,
  ⟨some 29, .call (.c (.fn 10 [] [])) [.t 27, .t 28], none, false, false, [27, 28]⟩,
  ⟨some 26, .mv (.t 29), none, false, false, [29]⟩,
  ⟨some 30, .ext 0 (.t 26), none, false, false, []⟩,
  ⟨some 31, .ext 1 (.t 26), none, false, false, [26]⟩,
  ⟨some 9, .mv (.t 30), none, false, false, [30]⟩,
  ⟨some 10, .mv (.t 31), none, false, false, [31]⟩])
 (.seq (.ops 5 false [⟨some 32, .mv (.t 0), none, false, false, []⟩,
  ⟨some 33, .mv (.t 1), none, false, false, []⟩,
  ⟨some 34, .call (.c (.fn 12 [] [])) [.t 32, .t 33], none, false, false, [32, 33]⟩,
  ⟨some 35, .mv (.t 0), none, false, false, []⟩,
  ⟨some 36, .mv (.t 1), none, false, false, []⟩,
  ⟨some 37, .call (.c (.fn 13 [] [])) [.t 35, .t 36], none, false, false, [35, 36]⟩,
  ⟨some 38, .call (.c (.fn 11 [] [])) [.t 34, .t 37], none, false, false, [34, 37]⟩,
  ⟨some 39, .mv (.t 38), none, false, false, [38]⟩,
  ⟨some 40, .mv (.t 0), (some (39, true)), true, false, []⟩,
  ⟨some 41, .mv (.t 1), (some (39, true)), true, false, []⟩,
  ⟨some 42, .call (.c (.fn 14 [] [])) [.o 40, .o 41], (some (39, true)), true, false, [40, 41]⟩,
  ⟨some 43, .mv (.t 0), (some (39, true)), true, false, []⟩,
  ⟨some 44, .mv (.t 1), (some (39, true)), true, false, []⟩,
  ⟨some 45, .call (.c (.fn 15 [] [])) [.o 43, .o 44], (some (39, true)), true, false, [43, 44]⟩,
  ⟨some 46, .call (.c (.fn 11 [] [])) [.o 42, .o 45], (some (39, true)), true, false, [42, 45]⟩,
  ⟨some 47, .pick (.t 39) (.t 46) (.c (.bool false)), none, false, false, [39, 46]⟩,
  ⟨some 48, .mv (.t 47), none, false, false, [47]⟩,
  ⟨some 49, .mv (.t 0), (some (48, true)), true, false, []⟩,
  ⟨some 50, .mv (.t 1), (some (48, true)), true, false, []⟩,
  ⟨some 51, .call (.c (.fn 16 [] [])) [.o 49, .o 50], (some (48, true)), true, false, [49, 50]⟩,
  ⟨some 52, .mv (.t 0), (some (48, true)), true, false, []⟩,
  ⟨some 53, .mv (.t 1), (some (48, true)), true, false, []⟩,
  ⟨some 54, .call (.c (.fn 17 [] [])) [.o 52, .o 53], (some (48, true)), true, false, [52, 53]⟩,
  ⟨some 55, .call (.c (.fn 11 [] [])) [.o 51, .o 54], (some (48, true)), true, false, [51, 54]⟩,
  ⟨some 56, .pick (.t 48) (.t 55) (.c (.bool false)), none, false, false, [48, 55]⟩,
  ⟨some 57, .mv (.t 56), none, false, false, [56]⟩,
  ⟨some 58, .mv (.t 0), (some (57, true)), true, false, []⟩,
  ⟨some 59, .mv (.t 1), (some (57, true)), true, false, []⟩,
  ⟨some 60, .call (.c (.fn 18 [] [])) [.o 58, .o 59], (some (57, true)), true, false, [58, 59]⟩,
  ⟨some 61, .mv (.t 0), (some (57, true)), true, false, [0]⟩,
  ⟨some 62, .mv (.t 1), (some (57, true)), true, false, [1]⟩,
  ⟨some 63, .call (.c (.fn 17 [] [])) [.o 61, .o 62], (some (57, true)), true, false, [61, 62]⟩,
  ⟨some 64, .len (.o 63), (some (57, true)), true, false, [63]⟩,
  ⟨some 65, .bin .eql (.o 64) (.c (.int .i64 0)), (some (57, true)), true, false, [64]⟩,
  ⟨some 66, .eqb false (.o 60) (.o 65), (some (57, true)), true, false, [60, 65]⟩,
  ⟨some 67, .pick (.t 57) (.t 66) (.c (.bool false)), none, false, false, [57, 66]⟩,
  ⟨some 68, .mv (.t 67), none, false, false, [67]⟩,
  ⟨some 69, .mv (.t 7), (some (68, true)), true, false, [7]⟩,
  ⟨some 70, .mv (.t 9), (some (68, true)), true, false, [9]⟩,
  ⟨some 71, .bin .eql (.o 69) (.o 70), (some (68, true)), true, false, [69, 70]⟩,
  ⟨some 72, .pick (.t 68) (.t 71) (.c (.bool false)), none, false, false, [68, 71]⟩,
  ⟨some 73, .mv (.t 72), none, false, false, [72]⟩,
  ⟨some 74, .mv (.t 8), (some (73, true)), true, false, [8]⟩,
  ⟨some 75, .mv (.t 10), (some (73, true)), true, false, [10]⟩,
  ⟨some 76, .eqb false (.o 74) (.o 75), (some (73, true)), true, false, [74, 75]⟩,
  ⟨some 77, .pick (.t 73) (.t 76) (.c (.bool false)), none, false, false, [73, 76]⟩,
  ⟨some 78, .mv (.t 77), none, false, false, [77]⟩,
  ⟨some 79, .call (.c (.fn 8 [] [])) [], (some (78, true)), true, false, []⟩,
  ⟨some 80, .pick (.t 78) (.t 79) (.c (.bool false)), none, false, false, [78, 79]⟩,
  ⟨some 6, .mv (.t 80), none, false, false, [80]⟩])
 (.ret)))))
def rs_l17_IdsetOps : List IRes := [.t 6]
theorem ok_l17_IdsetOps : fnOk Try.prog 3 ic_l17_IdsetOps rs_l17_IdsetOps 81 = true := by kernel_rfl

/-- tallyman/tallymanlaw17.IdsetTells -/
def ic_l17_IdsetTells : ICode :=
 .seq (.ops 0 false [⟨some 4, .mv (.c (.bool false)), none, false, false, [4]⟩])
 (.seq (.seq (.ops 1 false [⟨some 5, .mv (.t 0), none, false, false, []⟩,
  ⟨some 6, .len (.t 5), none, false, false, [5]⟩,
  ⟨some 7, .bin .gtr (.t 6) (.c (.int .i64 60)), none, false, false, [6]⟩])
 (.cond (.t 7)
  (.seq (.ops 2 false [⟨some 8, .call (.c (.fn 8 [] [])) [], none, false, false, []⟩,
   ⟨some 4, .mv (.t 8), none, false, false, [8]⟩])
  (.ret))
  (.skip)))
 (.seq (.ops 3 false [⟨some 9, .mv (.t 0), none, false, false, []⟩,
  ⟨some 10, .call (.c (.fn 19 [] [])) [.t 9], none, false, false, [9]⟩,
  ⟨some 11, .mv (.t 0), none, false, false, []⟩,
  ⟨some 12, .call (.c (.fn 20 [] [])) [.t 11], none, false, false, [11]⟩,
  ⟨some 13, .call (.c (.fn 11 [] [])) [.t 10, .t 12], none, false, false, [10, 12]⟩,
  ⟨some 14, .mv (.t 13), none, false, false, [13]⟩,
  ⟨some 15, .mv (.t 0), (some (14, true)), true, false, []⟩,
  ⟨some 16, .call (.c (.fn 21 [] [])) [.o 15], (some (14, true)), true, false, [15]⟩,
  ⟨some 17, .mv (.t 0), (some (14, true)), true, false, []⟩,
  ⟨some 18, .call (.c (.fn 22 [] [])) [.o 17], (some (14, true)), true, false, [17]⟩,
  ⟨some 19, .eqb false (.o 16) (.o 18), (some (14, true)), true, false, [16, 18]⟩,
  ⟨some 20, .pick (.t 14) (.t 19) (.c (.bool false)), none, false, false, [14, 19]⟩,
  ⟨some 21, .mv (.t 20), none, false, false, [20]⟩,
  ⟨some 22, .mv (.t 0), (some (21, true)), true, false, []⟩,
  ⟨some 23, .mv (.t 1), (some (21, true)), true, false, []⟩,
  ⟨some 24, .call (.c (.fn 23 [] [])) [.o 22, .o 23], (some (21, true)), true, false, [22, 23]⟩,
  ⟨some 25, .mv (.t 0), (some (21, true)), true, false, [0]⟩,
  ⟨some 26, .mv (.t 1), (some (21, true)), true, false, [1]⟩,
  ⟨some 27, .call (.c (.fn 24 [] [])) [.o 25, .o 26], (some (21, true)), true, false, [25, 26]⟩,
  ⟨some 28, .eqb false (.o 24) (.o 27), (some (21, true)), true, false, [24, 27]⟩,
  ⟨some 29, .pick (.t 21) (.t 28) (.c (.bool false)), none, false, false, [21, 28]⟩,
  ⟨some 30, .mv (.t 29), none, false, false, [29]⟩,
  ⟨some 31, .call (.c (.fn 8 [] [])) [], (some (30, true)), true, false, []⟩,
  ⟨some 32, .pick (.t 30) (.t 31) (.c (.bool false)), none, false, false, [30, 31]⟩,
  ⟨some 4, .mv (.t 32), none, false, false, [32]⟩])
 (.ret)))
def rs_l17_IdsetTells : List IRes := [.t 4]
theorem ok_l17_IdsetTells : fnOk Try.prog 4 ic_l17_IdsetTells rs_l17_IdsetTells 33 = true := by kernel_rfl

/-- tallyman/tallymanlaw17.IdsetLaws -/
def ic_l17_IdsetLaws : ICode :=
 .seq (.ops 0 false [⟨some 6, .mv (.c (.bool false)), none, false, false, [6]⟩])
 (.seq (.seq (.ops 1 false [⟨some 14, .mv (.t 0), none, false, false, []⟩,
  ⟨some 15, .len (.t 14), none, false, false, [14]⟩,
  ⟨some 16, .bin .gtr (.t 15) (.c (.int .i64 40)), none, false, false, [15]⟩,
  ⟨some 17, .mv (.t 16), none, false, false, [16]⟩,
  ⟨some 18, .mv (.t 1), (some (17, false)), true, false, []⟩,
  ⟨some 19, .len (.o 18), (some (17, false)), true, false, [18]⟩,
  ⟨some 20, .bin .gtr (.o 19) (.c (.int .i64 40)), (some (17, false)), true, false, [19]⟩,
  ⟨some 21, .pick (.t 17) (.c (.bool true)) (.t 20), none, false, false, [17, 20]⟩,
  ⟨some 22, .mv (.t 21), none, false, false, [21]⟩,
  ⟨some 23, .mv (.t 2), (some (22, false)), true, false, []⟩,
  ⟨some 24, .len (.o 23), (some (22, false)), true, false, [23]⟩,
  ⟨some 25, .bin .gtr (.o 24) (.c (.int .i64 40)), (some (22, false)), true, false, [24]⟩,
  ⟨some 26, .pick (.t 22) (.c (.bool true)) (.t 25), none, false, false, [22, 25]⟩])
 (.cond (.t 26)
  (.seq (.ops 2 false [⟨some 27, .call (.c (.fn 8 [] [])) [], none, false, false, []⟩,
   ⟨some 6, .mv (.t 27), none, false, false, [27]⟩])
  (.ret))
  (.skip)))
 (.seq (.ops 3 false [⟨some 28, .mv (.t 0), none, false, false, []⟩,
  ⟨some 29, .mv (.t 1), none, false, false, []⟩,
  ⟨some 30, .call (.c (.fn 16 [] [])) [.t 28, .t 29], none, false, false, [28, 29]⟩,
  ⟨some 31, .mv (.t 0), none, false, false, []⟩,
  ⟨some 32, .mv (.t 1), none, false, false, []⟩,
  ⟨some 33, .call (.c (.fn 14 [] [])) [.t 31, .t 32], none, false, false, [31, 32]⟩,
  ⟨some 34, .mv (.t 1), none, false, false, []⟩,
  ⟨some 35, .mv (.t 0), none, false, false, []⟩,
  ⟨some 36, .call (.c (.fn 16 [] [])) [.t 34, .t 35], none, false, false, [34, 35]⟩,
  ⟨some 7, .mv (.t 30), none, false, false, [30]⟩,
  ⟨some 8, .mv (.t 33), none, false, false, [33]⟩,
  ⟨some 9, .mv (.t 36), none, false, false, [36]⟩])
 (.seq (.ops 4 false [⟨some 37, .mv (.t 7), none, false, false, []⟩,
  ⟨some 38, .mv (.t 8), none, false, false, []⟩,
  ⟨some 39, .call (.c (.fn 12 [] [])) [.t 37, .t 38], none, false, false, [37, 38]⟩,
  ⟨some 40, .mv (.t 9), none, false, false, []⟩,
  ⟨some 41, .call (.c (.fn 12 [] [])) [.t 39, .t 40], none, false, false, [39, 40]⟩,
  ⟨some 10, .mv (.t 41), none, false, false, [41]⟩])
 (.seq (.seq (.ops 5 false [⟨some 42, .mv (.t 10), none, false, false, []⟩,
  ⟨some 43, .mv (.t 0), none, false, false, []⟩,
  ⟨some 44, .mv (.t 1), none, false, false, []⟩,
  ⟨some 45, .call (.c (.fn 12 [] [])) [.t 43, .t 44], none, false, false, [43, 44]⟩,
  ⟨some 46, .call (.c (.fn 11 [] [])) [.t 42, .t 45], none, false, false, [42, 45]⟩,
  ⟨some 47, .not (.t 46), none, false, false, [46]⟩,
  ⟨some 48, .mv (.t 47), none, false, false, [47]⟩,
  ⟨some 49, .mv (.t 10), (some (48, false)), true, false, []⟩,
  ⟨some 50, .len (.o 49), (some (48, false)), true, false, [49]⟩,
  ⟨some 51, .mv (.t 7), (some (48, false)), true, false, [7]⟩,
  ⟨some 52, .len (.o 51), (some (48, false)), true, false, [51]⟩,
  ⟨some 53, .mv (.t 8), (some (48, false)), true, false, []⟩,
  ⟨some 54, .len (.o 53), (some (48, false)), true, false, [53]⟩,
  ⟨some 55, .bin .add (.o 52) (.o 54), (some (48, false)), true, false, [52, 54]⟩,
  ⟨some 56, .mv (.t 9), (some (48, false)), true, false, [9]⟩,
  ⟨some 57, .len (.o 56), (some (48, false)), true, false, [56]⟩,
  ⟨some 58, .bin .add (.o 55) (.o 57), (some (48, false)), true, false, [55, 57]⟩,
  ⟨some 59, .bin .neq (.o 50) (.o 58), (some (48, false)), true, false, [50, 58]⟩,
  ⟨some 60, .pick (.t 48) (.c (.bool true)) (.t 59), none, false, false, [48, 59]⟩,
  ⟨some 61, .mv (.t 60), none, false, false, [60]⟩,
  ⟨some 62, .mv (.t 10), (some (61, false)), true, false, []⟩,
  ⟨some 63, .call (.c (.fn 21 [] [])) [.o 62], (some (61, false)), true, false, [62]⟩,
  ⟨some 64, .not (.o 63), (some (61, false)), true, false, [63]⟩,
  ⟨some 65, .pick (.t 61) (.c (.bool true)) (.t 64), none, false, false, [61, 64]⟩,
  ⟨some 66, .mv (.t 65), none, false, false, [65]⟩,
  ⟨some 67, .mv (.t 8), (some (66, false)), true, false, [8]⟩,
  ⟨some 68, .mv (.t 0), (some (66, false)), true, false, []⟩,
  ⟨some 69, .call (.c (.fn 18 [] [])) [.o 67, .o 68], (some (66, false)), true, false, [67, 68]⟩,
  ⟨some 70, .not (.o 69), (some (66, false)), true, false, [69]⟩,
  ⟨some 71, .pick (.t 66) (.c (.bool true)) (.t 70), none, false, false, [66, 70]⟩,
  ⟨some 72, .mv (.t 71), none, false, false, [71]⟩,
  ⟨some 73, .mv (.t 0), (some (72, false)), true, false, []⟩,
  ⟨some 74, .mv (.t 10), (some (72, false)), true, false, []⟩,
  ⟨some 75, .call (.c (.fn 18 [] [])) [.o 73, .o 74], (some (72, false)), true, false, [73, 74]⟩,
  ⟨some 76, .not (.o 75), (some (72, false)), true, false, [75]⟩,
  ⟨some 77, .pick (.t 72) (.c (.bool true)) (.t 76), none, false, false, [72, 76]⟩])
 (.cond (.t 77)
  (.seq (.ops 6 false [⟨some 6, .mv (.c (.bool false)), none, false, false, []⟩])
  (.ret))
  (.skip)))
 (.seq (.seq (.ops 7 false [⟨some 78, .mv (.t 0), none, false, false, []⟩,
  ⟨some 79, .mv (.t 1), none, false, false, []⟩,
  ⟨some 80, .call (.c (.fn 18 [] [])) [.t 78, .t 79], none, false, false, [78, 79]⟩,
  ⟨some 81, .mv (.t 80), none, false, false, [80]⟩,
  ⟨some 82, .mv (.t 1), (some (81, true)), true, false, []⟩,
  ⟨some 83, .mv (.t 2), (some (81, true)), true, false, []⟩,
  ⟨some 84, .call (.c (.fn 18 [] [])) [.o 82, .o 83], (some (81, true)), true, false, [82, 83]⟩,
  ⟨some 85, .pick (.t 81) (.t 84) (.c (.bool false)), none, false, false, [81, 84]⟩,
  ⟨some 86, .mv (.t 85), none, false, false, [85]⟩,
  ⟨some 87, .mv (.t 0), (some (86, true)), true, false, []⟩,
  ⟨some 88, .mv (.t 2), (some (86, true)), true, false, [2]⟩,
  ⟨some 89, .call (.c (.fn 18 [] [])) [.o 87, .o 88], (some (86, true)), true, false, [87, 88]⟩,
  ⟨some 90, .not (.o 89), (some (86, true)), true, false, [89]⟩,
  ⟨some 91, .pick (.t 86) (.t 90) (.c (.bool false)), none, false, false, [86, 90]⟩,
  ⟨some 92, .mv (.t 91), none, false, false, [91]⟩,
  ⟨some 93, .mv (.t 0), (some (92, false)), true, false, []⟩,
  ⟨some 94, .mv (.t 1), (some (92, false)), true, false, []⟩,
  ⟨some 95, .call (.c (.fn 18 [] [])) [.o 93, .o 94], (some (92, false)), true, false, [93, 94]⟩,
  ⟨some 96, .mv (.o 95), (some (92, false)), true, false, [95]⟩,
  ⟨some 97, .mv (.t 1), (some (96, true)), true, false, []⟩,
  ⟨some 98, .mv (.t 0), (some (96, true)), true, false, []⟩,
  ⟨some 99, .call (.c (.fn 18 [] [])) [.o 97, .o 98], (some (96, true)), true, false, [97, 98]⟩,
  ⟨some 100, .mv (.t 0), (some (96, true)), true, false, [0]⟩,
  ⟨some 101, .call (.c (.fn 19 [] [])) [.o 100], (some (96, true)), true, false, [100]⟩,
  ⟨some 102, .mv (.t 1), (some (96, true)), true, false, [1]⟩,
  ⟨some 103, .call (.c (.fn 19 [] [])) [.o 102], (some (96, true)), true, false, [102]⟩,
  ⟨some 104, .call (.c (.fn 11 [] [])) [.o 101, .o 103], (some (96, true)), true, false, [101, 103]⟩,
  ⟨some 105, .eqb true (.o 99) (.o 104), (some (96, true)), true, false, [99, 104]⟩,
  ⟨some 106, .pick (.o 96) (.t 105) (.c (.bool false)), (some (92, false)), true, false, [96, 105]⟩,
  ⟨some 107, .pick (.t 92) (.c (.bool true)) (.t 106), none, false, false, [92, 106]⟩])
 (.cond (.t 107)
  (.seq (.ops 8 false [⟨some 6, .mv (.c (.bool false)), none, false, false, []⟩])
  (.ret))
  (.skip)))
 (.seq (.ops 9 false [⟨some 11, .mv (.c (.nils)), none, false, false, []⟩])
 (.seq (.seq (.ops 10 false [⟨some 109, .mv (.t 10), none, false, false, []⟩,
  ⟨some 110, .call (.c (.fn 9 [] [])) [.t 109, .c (.int .i64 (-9223372036854775808))], none, false, false, [109]⟩,
  ⟨some 108, .mv (.t 110), none, false, false, [110]⟩,
  ⟨some 111, .ext 0 (.t 108), none, false, false, []⟩,
  ⟨some 112, .ext 1 (.t 108), none, false, false, [108]⟩,
  ⟨some 12, .mv (.t 111), none, false, false, [111]⟩,
  ⟨some 13, .mv (.t 112), none, false, false, [112]⟩])
 (.block 0 (.loop [10, 11, 12, 13] (.seq (.seq (.ops 11 false [⟨some 113, .mv (.t 13), none, false, false, [13]⟩,
    ⟨some 114, .mv (.t 113), none, false, false, [113]⟩,
    ⟨some 115, .mv (.t 11), (some (114, true)), true, false, []⟩,
    ⟨some 116, .len (.o 115), (some (114, true)), true, false, [115]⟩,
    ⟨some 117, .mv (.t 10), (some (114, true)), true, false, []⟩,
    ⟨some 118, .len (.o 117), (some (114, true)), true, false, [117]⟩,
    ⟨some 119, .bin .leq (.o 116) (.o 118), (some (114, true)), true, false, [116, 118]⟩,
    ⟨some 120, .pick (.t 114) (.t 119) (.c (.bool false)), none, false, false, [114, 119]⟩])
   (.cond (.t 120)
    (.skip)
    (.exit 0)))
   (.seq (.block 1 (.ops 13 false [⟨some 127, .mv (.t 11), none, false, false, [11]⟩,
     ⟨some 128, .mv (.t 12), none, false, false, []⟩,
     ⟨some 129, .rowView 1 [.t 128], none, false, false, [128]⟩,
     ⟨some 130, .app 1 (.t 127) (.t 129), none, false, false, [127, 129]⟩,
     ⟨some 11, .mv (.t 130), none, false, false, [130]⟩]))
   (.ops 12 false [⟨some 122, .mv (.t 10), none, false, false, []⟩,
    ⟨some 123, .mv (.t 12), none, false, false, [12]⟩,
    ⟨some 124, .call (.c (.fn 9 [] [])) [.t 122, .t 123], none, false, false, [122, 123]⟩,
    ⟨some 121, .mv (.t 124), none, false, false, [124]⟩,
    ⟨some 125, .ext 0 (.t 121), none, false, false, []⟩,
    ⟨some 126, .ext 1 (.t 121), none, false, false, [121]⟩,
    ⟨some 12, .mv (.t 125), none, false, false, [125]⟩,
    ⟨some 13, .mv (.t 126), none, false, false, [126]⟩]))))))
 (.seq (.ops 14 false [⟨some 131, .mv (.t 11), none, false, false, [11]⟩,
  ⟨some 132, .mv (.t 10), none, false, false, []⟩,
  ⟨some 133, .call (.c (.fn 11 [] [])) [.t 131, .t 132], none, false, false, [131, 132]⟩,
  ⟨some 134, .mv (.t 133), none, false, false, [133]⟩,
  ⟨some 135, .mv (.t 10), (some (134, false)), true, false, [10]⟩,
  ⟨some 136, .call (.c (.fn 23 [] [])) [.o 135, .c (.int .i64 (-9223372036854775808))], (some (134, false)), true, false, [135]⟩,
  ⟨some 137, .pick (.t 134) (.c (.bool true)) (.t 136), none, false, false, [134, 136]⟩,
  ⟨some 138, .mv (.t 137), none, false, false, [137]⟩,
  ⟨some 139, .call (.c (.fn 8 [] [])) [], (some (138, true)), true, false, []⟩,
  ⟨some 140, .pick (.t 138) (.t 139) (.c (.bool false)), none, false, false, [138, 139]⟩,
  ⟨some 6, .mv (.t 140), none, false, false, [140]⟩])
 (.ret)))))))))
def rs_l17_IdsetLaws : List IRes := [.t 6]
theorem ok_l17_IdsetLaws : fnOk Try.prog 5 ic_l17_IdsetLaws rs_l17_IdsetLaws 141 = true := by kernel_rfl

end Go.Proofs.Yteidimemlonjbaa.Sx
