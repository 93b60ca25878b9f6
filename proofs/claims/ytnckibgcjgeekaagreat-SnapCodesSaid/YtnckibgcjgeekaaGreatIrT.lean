/- Functions of the seat in the small language. No conditions: a kit of our own. -/
import Derived.Test.YtnckibgcjgeekaaGreatProg
import Derived.Test.YtnckibgcjgeekaaGreatSx17
namespace Go.Proofs.YtnckibgcjgeekaaGreat.Sx
open Go Go.RowKit
set_option linter.unusedVariables false

/-- tallyman/tallymanref30.Shape -/
def ic_r30_Shape : ICode :=
 .seq (.ops 0 false [⟨some 2, .box (.t 0), none, false, false, [0]⟩,
  ⟨some 3, .box (.t 1), none, false, false, [1]⟩,
  ⟨some 4, .mv (.c (.int .i64 0)), none, false, false, [4]⟩])
 (.seq (.seq (.ops 1 false [⟨some 6, .ld (some 8) [] (.t 2), none, false, false, []⟩,
  ⟨some 7, .call (.c (.fn 50 [] [])) [.t 6], none, false, false, [6]⟩,
  ⟨some 5, .mv (.t 7), none, false, false, [7]⟩])
 (.seq (.ops 2 false [⟨some 8, .mv (.t 5), none, false, false, []⟩,
  ⟨some 9, .bin .neq (.t 8) (.c (.int .i64 0)), none, false, false, [8]⟩])
 (.cond (.t 9)
  (.seq (.ops 3 false [⟨some 10, .mv (.t 5), none, false, false, [5]⟩,
   ⟨some 4, .mv (.t 10), none, false, false, [10]⟩])
  (.ret))
  (.skip))))
 (.seq (.seq (.ops 4 false [⟨some 11, .ld (some 8) [] (.t 2), none, false, false, []⟩,
  ⟨some 12, .ld (some 8) [] (.t 3), none, false, false, []⟩,
  ⟨some 13, .call (.c (.fn 51 [] [])) [.t 11, .t 12], none, false, false, [11, 12]⟩])
 (.cond (.t 13)
  (.seq (.ops 5 false [⟨some 4, .mv (.c (.int .i64 15)), none, false, false, []⟩])
  (.ret))
  (.skip)))
 (.seq (.seq (.ops 6 false [⟨some 14, .ld (some 8) [] (.t 2), none, false, false, []⟩,
  ⟨some 15, .ld (some 8) [] (.t 3), none, false, false, []⟩,
  ⟨some 16, .call (.c (.fn 52 [] [])) [.t 14, .t 15], none, false, false, [14, 15]⟩,
  ⟨some 17, .not (.t 16), none, false, false, [16]⟩])
 (.cond (.t 17)
  (.seq (.ops 7 false [⟨some 4, .mv (.c (.int .i64 3)), none, false, false, []⟩])
  (.ret))
  (.skip)))
 (.seq (.seq (.ops 8 false [⟨some 18, .ld (some 8) [] (.t 2), none, false, false, [2]⟩,
  ⟨some 19, .ld (some 8) [] (.t 3), none, false, false, [3]⟩,
  ⟨some 20, .call (.c (.fn 53 [] [])) [.t 18, .t 19], none, false, false, [18, 19]⟩,
  ⟨some 21, .not (.t 20), none, false, false, [20]⟩])
 (.cond (.t 21)
  (.seq (.ops 9 false [⟨some 4, .mv (.c (.int .i64 2)), none, false, false, []⟩])
  (.ret))
  (.skip)))
 (.seq (.ops 10 false [⟨some 4, .mv (.c (.int .i64 0)), none, false, false, []⟩])
 (.ret))))))
def rs_r30_Shape : List IRes := [.t 4]
theorem ok_r30_Shape : fnOk Tryz.prog 14 ic_r30_Shape rs_r30_Shape 22 = true := by kernel_rfl

/-- tallyman/tallymanref30.big -/
def ic_r30_big : ICode :=
 .seq (.ops 0 false [⟨some 2, .box (.t 0), none, false, false, [0]⟩,
  ⟨some 3, .box (.t 1), none, false, false, [1]⟩,
  ⟨some 4, .mv (.c (.bool false)), none, false, false, [4]⟩])
 (.seq (.seq (.ops 1 false [⟨some 8, .fa 3 (.t 3), none, false, false, []⟩,
  ⟨some 9, .ld none [] (.t 8), none, false, false, [8]⟩,
  ⟨some 10, .len (.t 9), none, false, false, [9]⟩,
  ⟨some 11, .fa 0 (.t 2), none, false, false, []⟩,
  ⟨some 12, .ld none [] (.t 11), none, false, false, [11]⟩,
  ⟨some 13, .bin .gtr (.t 10) (.t 12), none, false, false, [10, 12]⟩,
  ⟨some 14, .mv (.t 13), none, false, false, [13]⟩,
  ⟨some 15, .fa 4 (.t 3), (some (14, false)), true, false, []⟩,
  ⟨some 16, .ld none [] (.o 15), (some (14, false)), true, false, [15]⟩,
  ⟨some 17, .len (.o 16), (some (14, false)), true, false, [16]⟩,
  ⟨some 18, .fa 1 (.t 2), (some (14, false)), true, false, []⟩,
  ⟨some 19, .ld none [] (.o 18), (some (14, false)), true, false, [18]⟩,
  ⟨some 20, .bin .gtr (.o 17) (.o 19), (some (14, false)), true, false, [17, 19]⟩,
  ⟨some 21, .pick (.t 14) (.c (.bool true)) (.t 20), none, false, false, [14, 20]⟩,
  ⟨some 22, .mv (.t 21), none, false, false, [21]⟩,
  ⟨some 23, .fa 5 (.t 3), (some (22, false)), true, false, []⟩,
  ⟨some 24, .ld none [] (.o 23), (some (22, false)), true, false, [23]⟩,
  ⟨some 25, .len (.o 24), (some (22, false)), true, false, [24]⟩,
  ⟨some 26, .fa 2 (.t 2), (some (22, false)), true, false, []⟩,
  ⟨some 27, .ld none [] (.o 26), (some (22, false)), true, false, [26]⟩,
  ⟨some 28, .bin .gtr (.o 25) (.o 27), (some (22, false)), true, false, [25, 27]⟩,
  ⟨some 29, .pick (.t 22) (.c (.bool true)) (.t 28), none, false, false, [22, 28]⟩,
  ⟨some 30, .mv (.t 29), none, false, false, [29]⟩,
  ⟨some 31, .fa 6 (.t 3), (some (30, false)), true, false, []⟩,
  ⟨some 32, .ld none [] (.o 31), (some (30, false)), true, false, [31]⟩,
  ⟨some 33, .len (.o 32), (some (30, false)), true, false, [32]⟩,
  ⟨some 34, .fa 1 (.t 2), (some (30, false)), true, false, []⟩,
  ⟨some 35, .ld none [] (.o 34), (some (30, false)), true, false, [34]⟩,
  ⟨some 36, .bin .gtr (.o 33) (.o 35), (some (30, false)), true, false, [33, 35]⟩,
  ⟨some 37, .pick (.t 30) (.c (.bool true)) (.t 36), none, false, false, [30, 36]⟩,
  ⟨some 38, .mv (.t 37), none, false, false, [37]⟩,
  ⟨some 39, .fa 7 (.t 3), (some (38, false)), true, false, []⟩,
  ⟨some 40, .ld none [] (.o 39), (some (38, false)), true, false, [39]⟩,
  ⟨some 41, .len (.o 40), (some (38, false)), true, false, [40]⟩,
  ⟨some 42, .fa 7 (.t 2), (some (38, false)), true, false, []⟩,
  ⟨some 43, .ld none [] (.o 42), (some (38, false)), true, false, [42]⟩,
  ⟨some 44, .len (.o 43), (some (38, false)), true, false, [43]⟩,
  ⟨some 45, .bin .neq (.o 41) (.o 44), (some (38, false)), true, false, [41, 44]⟩,
  ⟨some 46, .pick (.t 38) (.c (.bool true)) (.t 45), none, false, false, [38, 45]⟩])
 (.cond (.t 46)
  (.seq (.ops 2 false [⟨some 4, .mv (.c (.bool true)), none, false, false, []⟩])
  (.ret))
  (.skip)))
 (.seq (.seq (.ops 3 false [⟨some 5, .mv (.c (.int .i64 0)), none, false, false, []⟩])
 (.block 0 (.loop [2, 3, 5] (.seq (.seq (.ops 4 false [⟨some 47, .mv (.t 5), none, false, false, []⟩,
    ⟨some 48, .fa 3 (.t 3), none, false, false, []⟩,
    ⟨some 49, .ld none [] (.t 48), none, false, false, [48]⟩,
    ⟨some 50, .len (.t 49), none, false, false, [49]⟩,
    ⟨some 51, .bin .lss (.t 47) (.t 50), none, false, false, [47, 50]⟩])
   (.cond (.t 51)
    (.skip)
    (.exit 0)))
   (.seq (.block 1 (.seq (.ops 6 false [⟨some 54, .fa 3 (.t 3), none, false, false, []⟩,
     ⟨some 55, .ld none [] (.t 54), none, false, false, [54]⟩,
     ⟨some 56, .mv (.t 5), none, false, false, []⟩,
     ⟨some 57, .ia 14 [.int .i64 0, .int .i64 0, .int .u64 0, .int .u64 0, .int .i64 0, .int .i64 0, .int .i64 0, .int .i64 0, .view [], .int .i64 0, .int .i64 0, .int .i64 0, .int .i64 0, .view []] (.t 55) (.t 56), none, false, false, [55, 56]⟩,
     ⟨some 58, .fa 13 (.t 57), none, false, false, [57]⟩,
     ⟨some 59, .ld none [.int .i64 0, .int .i64 0, .int .u64 0, .int .u64 0, .int .i64 0, .int .i64 0, .int .i64 0, .int .i64 0, .view [], .int .i64 0, .int .i64 0, .int .i64 0, .int .i64 0, .view []] (.t 58), none, false, false, [58]⟩,
     ⟨some 60, .len (.t 59), none, false, false, [59]⟩,
     ⟨some 61, .bin .gtr (.t 60) (.c (.int .i64 16)), none, false, false, [60]⟩])
    (.cond (.t 61)
     (.seq (.ops 7 false [⟨some 4, .mv (.c (.bool true)), none, false, false, []⟩])
     (.ret))
     (.skip))))
   (.ops 5 false [⟨some 52, .mv (.t 5), none, false, false, [5]⟩,
    ⟨some 53, .bin .add (.t 52) (.c (.int .i64 1)), none, false, false, [52]⟩,
    ⟨some 5, .mv (.t 53), none, false, false, [53]⟩]))))))
 (.seq (.seq (.ops 8 false [⟨some 6, .mv (.c (.int .i64 0)), none, false, false, []⟩])
 (.block 2 (.loop [2, 3, 6] (.seq (.seq (.ops 9 false [⟨some 62, .mv (.t 6), none, false, false, []⟩,
    ⟨some 63, .fa 6 (.t 3), none, false, false, []⟩,
    ⟨some 64, .ld none [] (.t 63), none, false, false, [63]⟩,
    ⟨some 65, .len (.t 64), none, false, false, [64]⟩,
    ⟨some 66, .bin .lss (.t 62) (.t 65), none, false, false, [62, 65]⟩])
   (.cond (.t 66)
    (.skip)
    (.exit 2)))
   (.seq (.block 3 (.seq (.ops 11 true [⟨some 69, .fa 6 (.t 3), none, false, false, []⟩,
     ⟨some 70, .ld none [] (.t 69), none, false, false, [69]⟩,
     ⟨some 71, .mv (.t 6), none, false, false, []⟩,
     ⟨some 72, .ia 7 [.int .i64 0, .int .i64 0, .int .i64 0, .int .i64 0, .int .i64 0, .int .i64 0, .view []] (.t 70) (.t 71), none, false, false, [70, 71]⟩,
     ⟨some 73, .fa 6 (.t 72), none, false, false, [72]⟩,
     ⟨some 74, .ld none [.int .i64 0, .int .i64 0, .int .i64 0, .int .i64 0, .int .i64 0, .int .i64 0, .view []] (.t 73), none, false, false, [73]⟩,
     ⟨some 75, .len (.t 74), none, false, false, [74]⟩,
     ⟨some 76, .fa 7 (.t 2), none, false, false, []⟩,
     ⟨some 77, .ld none [] (.t 76), none, false, false, [76]⟩,
     ⟨some 78, .len (.t 77), none, false, false, [77]⟩,
     ⟨some 79, .bin .gtr (.t 75) (.t 78), none, false, false, [75, 78]⟩])
    (.cond (.t 79)
     (.seq (.ops 12 false [⟨some 4, .mv (.c (.bool true)), none, false, false, []⟩])
     (.ret))
     (.skip))))
   (.ops 10 false [⟨some 67, .mv (.t 6), none, false, false, [6]⟩,
    ⟨some 68, .bin .add (.t 67) (.c (.int .i64 1)), none, false, false, [67]⟩,
    ⟨some 6, .mv (.t 68), none, false, false, [68]⟩]))))))
 (.seq (.seq (.ops 13 false [⟨some 7, .mv (.c (.int .i64 0)), none, false, false, []⟩])
 (.block 4 (.loop [3, 7] (.seq (.seq (.ops 14 false [⟨some 80, .mv (.t 7), none, false, false, []⟩,
    ⟨some 81, .fa 7 (.t 3), none, false, false, []⟩,
    ⟨some 82, .ld none [] (.t 81), none, false, false, [81]⟩,
    ⟨some 83, .len (.t 82), none, false, false, [82]⟩,
    ⟨some 84, .bin .lss (.t 80) (.t 83), none, false, false, [80, 83]⟩])
   (.cond (.t 84)
    (.skip)
    (.exit 4)))
   (.seq (.block 5 (.seq (.ops 16 false [⟨some 87, .fa 7 (.t 3), none, false, false, []⟩,
     ⟨some 88, .ld none [] (.t 87), none, false, false, [87]⟩,
     ⟨some 89, .mv (.t 7), none, false, false, []⟩,
     ⟨some 90, .ia 3 [.int .i64 0, .int .i64 0, .view []] (.t 88) (.t 89), none, false, false, [88, 89]⟩,
     ⟨some 91, .fa 2 (.t 90), none, false, false, [90]⟩,
     ⟨some 92, .ld none [.int .i64 0, .int .i64 0, .view []] (.t 91), none, false, false, [91]⟩,
     ⟨some 93, .len (.t 92), none, false, false, [92]⟩,
     ⟨some 94, .bin .gtr (.t 93) (.c (.int .i64 64)), none, false, false, [93]⟩])
    (.cond (.t 94)
     (.seq (.ops 17 false [⟨some 4, .mv (.c (.bool true)), none, false, false, []⟩])
     (.ret))
     (.skip))))
   (.ops 15 false [⟨some 85, .mv (.t 7), none, false, false, [7]⟩,
    ⟨some 86, .bin .add (.t 85) (.c (.int .i64 1)), none, false, false, [85]⟩,
    ⟨some 7, .mv (.t 86), none, false, false, [86]⟩]))))))
 (.seq (.ops 18 false [⟨some 4, .mv (.c (.bool false)), none, false, false, []⟩])
 (.ret))))))
def rs_r30_big : List IRes := [.t 4]
theorem ok_r30_big : fnOk Tryz.prog 51 ic_r30_big rs_r30_big 95 = true := by kernel_rfl

/-- tallyman/tallymanref30.form -/
def ic_r30_form : ICode :=
 .seq (.ops 0 false [⟨some 2, .box (.t 0), none, false, false, [0]⟩,
  ⟨some 3, .box (.t 1), none, false, false, [1]⟩,
  ⟨some 4, .mv (.c (.bool false)), none, false, false, [4]⟩])
 (.seq (.seq (.ops 1 false [⟨some 8, .fa 4 (.t 3), none, false, false, []⟩,
  ⟨some 9, .ld none [] (.t 8), none, false, false, [8]⟩,
  ⟨some 10, .call (.c (.fn 83 [] [])) [.t 9], none, false, false, [9]⟩,
  ⟨some 11, .not (.t 10), none, false, false, [10]⟩,
  ⟨some 12, .mv (.t 11), none, false, false, [11]⟩,
  ⟨some 13, .fa 5 (.t 3), (some (12, false)), true, false, []⟩,
  ⟨some 14, .ld none [] (.o 13), (some (12, false)), true, false, [13]⟩,
  ⟨some 15, .call (.c (.fn 83 [] [])) [.o 14], (some (12, false)), true, false, [14]⟩,
  ⟨some 16, .not (.o 15), (some (12, false)), true, false, [15]⟩,
  ⟨some 17, .pick (.t 12) (.c (.bool true)) (.t 16), none, false, false, [12, 16]⟩])
 (.cond (.t 17)
  (.seq (.ops 2 false [⟨some 4, .mv (.c (.bool false)), none, false, false, []⟩])
  (.ret))
  (.skip)))
 (.seq (.seq (.ops 3 false [⟨some 5, .mv (.c (.int .i64 0)), none, false, false, []⟩])
 (.block 0 (.loop [2, 3, 5] (.seq (.seq (.ops 4 false [⟨some 18, .mv (.t 5), none, false, false, []⟩,
    ⟨some 19, .fa 3 (.t 3), none, false, false, []⟩,
    ⟨some 20, .ld none [] (.t 19), none, false, false, [19]⟩,
    ⟨some 21, .len (.t 20), none, false, false, [20]⟩,
    ⟨some 22, .bin .lss (.t 18) (.t 21), none, false, false, [18, 21]⟩])
   (.cond (.t 22)
    (.skip)
    (.exit 0)))
   (.seq (.block 1 (.seq (.ops 6 true [⟨some 25, .mv (.t 5), none, false, false, []⟩,
     ⟨some 26, .bin .gtr (.t 25) (.c (.int .i64 0)), none, false, false, [25]⟩,
     ⟨some 27, .mv (.t 26), none, false, false, [26]⟩,
     ⟨some 28, .fa 3 (.t 3), (some (27, true)), true, false, []⟩,
     ⟨some 29, .ld none [] (.o 28), (some (27, true)), true, false, [28]⟩,
     ⟨some 30, .mv (.t 5), (some (27, true)), true, false, []⟩,
     ⟨some 31, .ia 14 [.int .i64 0, .int .i64 0, .int .u64 0, .int .u64 0, .int .i64 0, .int .i64 0, .int .i64 0, .int .i64 0, .view [], .int .i64 0, .int .i64 0, .int .i64 0, .int .i64 0, .view []] (.o 29) (.o 30), (some (27, true)), true, false, [29, 30]⟩,
     ⟨some 32, .fa 0 (.o 31), (some (27, true)), true, false, [31]⟩,
     ⟨some 33, .fa 0 (.o 32), (some (27, true)), true, false, [32]⟩,
     ⟨some 34, .ld none [.int .i64 0, .int .i64 0, .int .u64 0, .int .u64 0, .int .i64 0, .int .i64 0, .int .i64 0, .int .i64 0, .view [], .int .i64 0, .int .i64 0, .int .i64 0, .int .i64 0, .view []] (.o 33), (some (27, true)), true, false, [33]⟩,
     ⟨some 35, .fa 3 (.t 3), (some (27, true)), true, false, []⟩,
     ⟨some 36, .ld none [] (.o 35), (some (27, true)), true, false, [35]⟩,
     ⟨some 37, .mv (.t 5), (some (27, true)), true, false, []⟩,
     ⟨some 38, .bin .sub (.o 37) (.c (.int .i64 1)), (some (27, true)), true, false, [37]⟩,
     ⟨some 39, .ia 14 [.int .i64 0, .int .i64 0, .int .u64 0, .int .u64 0, .int .i64 0, .int .i64 0, .int .i64 0, .int .i64 0, .view [], .int .i64 0, .int .i64 0, .int .i64 0, .int .i64 0, .view []] (.o 36) (.o 38), (some (27, true)), true, false, [36, 38]⟩,
     ⟨some 40, .fa 0 (.o 39), (some (27, true)), true, false, [39]⟩,
     ⟨some 41, .fa 0 (.o 40), (some (27, true)), true, false, [40]⟩,
     ⟨some 42, .ld none [.int .i64 0, .int .i64 0, .int .u64 0, .int .u64 0, .int .i64 0, .int .i64 0, .int .i64 0, .int .i64 0, .view [], .int .i64 0, .int .i64 0, .int .i64 0, .int .i64 0, .view []] (.o 41), (some (27, true)), true, false, [41]⟩,
     ⟨some 43, .bin .leq (.o 34) (.o 42), (some (27, true)), true, false, [34, 42]⟩,
     ⟨some 44, .pick (.t 27) (.t 43) (.c (.bool false)), none, false, false, [27, 43]⟩,
     ⟨some 45, .mv (.t 44), none, false, false, [44]⟩,
     ⟨some 46, .fa 3 (.t 3), (some (45, false)), true, false, []⟩,
     ⟨some 47, .ld none [] (.o 46), (some (45, false)), true, false, [46]⟩,
     ⟨some 48, .mv (.t 5), (some (45, false)), true, false, []⟩,
     ⟨some 49, .ia 14 [.int .i64 0, .int .i64 0, .int .u64 0, .int .u64 0, .int .i64 0, .int .i64 0, .int .i64 0, .int .i64 0, .view [], .int .i64 0, .int .i64 0, .int .i64 0, .int .i64 0, .view []] (.o 47) (.o 48), (some (45, false)), true, false, [47, 48]⟩,
     ⟨some 50, .fa 13 (.o 49), (some (45, false)), true, false, [49]⟩,
     ⟨some 51, .ld none [.int .i64 0, .int .i64 0, .int .u64 0, .int .u64 0, .int .i64 0, .int .i64 0, .int .i64 0, .int .i64 0, .view [], .int .i64 0, .int .i64 0, .int .i64 0, .int .i64 0, .view []] (.o 50), (some (45, false)), true, false, [50]⟩,
     ⟨some 52, .call (.c (.fn 84 [] [])) [.o 51], (some (45, false)), true, false, [51]⟩,
     ⟨some 53, .not (.o 52), (some (45, false)), true, false, [52]⟩,
     ⟨some 54, .pick (.t 45) (.c (.bool true)) (.t 53), none, false, false, [45, 53]⟩])
    (.cond (.t 54)
     (.seq (.ops 7 false [⟨some 4, .mv (.c (.bool false)), none, false, false, []⟩])
     (.ret))
     (.skip))))
   (.ops 5 false [⟨some 23, .mv (.t 5), none, false, false, [5]⟩,
    ⟨some 24, .bin .add (.t 23) (.c (.int .i64 1)), none, false, false, [23]⟩,
    ⟨some 5, .mv (.t 24), none, false, false, [24]⟩]))))))
 (.seq (.seq (.ops 8 false [⟨some 6, .mv (.c (.int .i64 0)), none, false, false, []⟩])
 (.block 2 (.loop [2, 3, 6] (.seq (.seq (.ops 9 false [⟨some 55, .mv (.t 6), none, false, false, []⟩,
    ⟨some 56, .fa 6 (.t 3), none, false, false, []⟩,
    ⟨some 57, .ld none [] (.t 56), none, false, false, [56]⟩,
    ⟨some 58, .len (.t 57), none, false, false, [57]⟩,
    ⟨some 59, .bin .lss (.t 55) (.t 58), none, false, false, [55, 58]⟩])
   (.cond (.t 59)
    (.skip)
    (.exit 2)))
   (.seq (.block 3 (.seq (.ops 11 true [⟨some 62, .mv (.t 6), none, false, false, []⟩,
     ⟨some 63, .bin .gtr (.t 62) (.c (.int .i64 0)), none, false, false, [62]⟩,
     ⟨some 64, .mv (.t 63), none, false, false, [63]⟩,
     ⟨some 65, .fa 6 (.t 3), (some (64, true)), true, false, []⟩,
     ⟨some 66, .ld none [] (.o 65), (some (64, true)), true, false, [65]⟩,
     ⟨some 67, .mv (.t 6), (some (64, true)), true, false, []⟩,
     ⟨some 68, .ia 7 [.int .i64 0, .int .i64 0, .int .i64 0, .int .i64 0, .int .i64 0, .int .i64 0, .view []] (.o 66) (.o 67), (some (64, true)), true, false, [66, 67]⟩,
     ⟨some 69, .fa 0 (.o 68), (some (64, true)), true, false, [68]⟩,
     ⟨some 70, .ld none [.int .i64 0, .int .i64 0, .int .i64 0, .int .i64 0, .int .i64 0, .int .i64 0, .view []] (.o 69), (some (64, true)), true, false, [69]⟩,
     ⟨some 71, .fa 6 (.t 3), (some (64, true)), true, false, []⟩,
     ⟨some 72, .ld none [] (.o 71), (some (64, true)), true, false, [71]⟩,
     ⟨some 73, .mv (.t 6), (some (64, true)), true, false, []⟩,
     ⟨some 74, .bin .sub (.o 73) (.c (.int .i64 1)), (some (64, true)), true, false, [73]⟩,
     ⟨some 75, .ia 7 [.int .i64 0, .int .i64 0, .int .i64 0, .int .i64 0, .int .i64 0, .int .i64 0, .view []] (.o 72) (.o 74), (some (64, true)), true, false, [72, 74]⟩,
     ⟨some 76, .fa 0 (.o 75), (some (64, true)), true, false, [75]⟩,
     ⟨some 77, .ld none [.int .i64 0, .int .i64 0, .int .i64 0, .int .i64 0, .int .i64 0, .int .i64 0, .view []] (.o 76), (some (64, true)), true, false, [76]⟩,
     ⟨some 78, .bin .leq (.o 70) (.o 77), (some (64, true)), true, false, [70, 77]⟩,
     ⟨some 79, .pick (.t 64) (.t 78) (.c (.bool false)), none, false, false, [64, 78]⟩,
     ⟨some 80, .mv (.t 79), none, false, false, [79]⟩,
     ⟨some 81, .fa 6 (.t 3), (some (80, false)), true, false, []⟩,
     ⟨some 82, .ld none [] (.o 81), (some (80, false)), true, false, [81]⟩,
     ⟨some 83, .mv (.t 6), (some (80, false)), true, false, []⟩,
     ⟨some 84, .ia 7 [.int .i64 0, .int .i64 0, .int .i64 0, .int .i64 0, .int .i64 0, .int .i64 0, .view []] (.o 82) (.o 83), (some (80, false)), true, false, [82, 83]⟩,
     ⟨some 85, .fa 6 (.o 84), (some (80, false)), true, false, [84]⟩,
     ⟨some 86, .ld none [.int .i64 0, .int .i64 0, .int .i64 0, .int .i64 0, .int .i64 0, .int .i64 0, .view []] (.o 85), (some (80, false)), true, false, [85]⟩,
     ⟨some 87, .call (.c (.fn 84 [] [])) [.o 86], (some (80, false)), true, false, [86]⟩,
     ⟨some 88, .not (.o 87), (some (80, false)), true, false, [87]⟩,
     ⟨some 89, .pick (.t 80) (.c (.bool true)) (.t 88), none, false, false, [80, 88]⟩])
    (.cond (.t 89)
     (.seq (.ops 12 false [⟨some 4, .mv (.c (.bool false)), none, false, false, []⟩])
     (.ret))
     (.skip))))
   (.ops 10 false [⟨some 60, .mv (.t 6), none, false, false, [6]⟩,
    ⟨some 61, .bin .add (.t 60) (.c (.int .i64 1)), none, false, false, [60]⟩,
    ⟨some 6, .mv (.t 61), none, false, false, [61]⟩]))))))
 (.seq (.seq (.ops 13 false [⟨some 7, .mv (.c (.int .i64 0)), none, false, false, []⟩])
 (.block 4 (.loop [2, 3, 7] (.seq (.seq (.ops 14 false [⟨some 90, .mv (.t 7), none, false, false, []⟩,
    ⟨some 91, .fa 7 (.t 3), none, false, false, []⟩,
    ⟨some 92, .ld none [] (.t 91), none, false, false, [91]⟩,
    ⟨some 93, .len (.t 92), none, false, false, [92]⟩,
    ⟨some 94, .bin .lss (.t 90) (.t 93), none, false, false, [90, 93]⟩])
   (.cond (.t 94)
    (.skip)
    (.exit 4)))
   (.seq (.block 5 (.seq (.ops 16 true [⟨some 97, .fa 7 (.t 3), none, false, false, []⟩,
     ⟨some 98, .ld none [] (.t 97), none, false, false, [97]⟩,
     ⟨some 99, .mv (.t 7), none, false, false, []⟩,
     ⟨some 100, .ia 3 [.int .i64 0, .int .i64 0, .view []] (.t 98) (.t 99), none, false, false, [98, 99]⟩,
     ⟨some 101, .fa 0 (.t 100), none, false, false, [100]⟩,
     ⟨some 102, .ld none [.int .i64 0, .int .i64 0, .view []] (.t 101), none, false, false, [101]⟩,
     ⟨some 103, .fa 7 (.t 2), none, false, false, []⟩,
     ⟨some 104, .ld none [] (.t 103), none, false, false, [103]⟩,
     ⟨some 105, .mv (.t 7), none, false, false, []⟩,
     ⟨some 106, .ia 5 [.int .i64 0, .int .i64 0, .int .i64 0, .int .i64 0, .int .i64 0] (.t 104) (.t 105), none, false, false, [104, 105]⟩,
     ⟨some 107, .fa 0 (.t 106), none, false, false, [106]⟩,
     ⟨some 108, .ld none [.int .i64 0, .int .i64 0, .int .i64 0, .int .i64 0, .int .i64 0] (.t 107), none, false, false, [107]⟩,
     ⟨some 109, .bin .neq (.t 102) (.t 108), none, false, false, [102, 108]⟩])
    (.cond (.t 109)
     (.seq (.ops 17 false [⟨some 4, .mv (.c (.bool false)), none, false, false, []⟩])
     (.ret))
     (.skip))))
   (.ops 15 false [⟨some 95, .mv (.t 7), none, false, false, [7]⟩,
    ⟨some 96, .bin .add (.t 95) (.c (.int .i64 1)), none, false, false, [95]⟩,
    ⟨some 7, .mv (.t 96), none, false, false, [96]⟩]))))))
 (.seq (.ops 18 false [⟨some 4, .mv (.c (.bool true)), none, false, false, []⟩])
 (.ret))))))
def rs_r30_form : List IRes := [.t 4]
theorem ok_r30_form : fnOk Tryz.prog 52 ic_r30_form rs_r30_form 110 = true := by kernel_rfl

/-- tallyman/tallymanref30.bounds -/
def ic_r30_bounds : ICode :=
 .seq (.ops 0 false [⟨some 2, .box (.t 0), none, false, false, [0]⟩,
  ⟨some 3, .box (.t 1), none, false, false, [1]⟩,
  ⟨some 4, .mv (.c (.bool false)), none, false, false, [4]⟩])
 (.seq (.seq (.ops 1 true [⟨some 10, .fa 0 (.t 3), none, false, false, []⟩,
  ⟨some 11, .ld none [] (.t 10), none, false, false, [10]⟩,
  ⟨some 12, .fa 6 (.t 2), none, false, false, []⟩,
  ⟨some 13, .ld none [] (.t 12), none, false, false, [12]⟩,
  ⟨some 14, .call (.c (.fn 85 [] [])) [.t 11, .t 13, .c (.int .i64 2147483647)], none, false, false, [11, 13]⟩,
  ⟨some 15, .not (.t 14), none, false, false, [14]⟩,
  ⟨some 16, .mv (.t 15), none, false, false, [15]⟩,
  ⟨some 17, .fa 1 (.t 3), (some (16, false)), true, false, []⟩,
  ⟨some 18, .ld none [] (.o 17), (some (16, false)), true, false, [17]⟩,
  ⟨some 19, .fa 0 (.t 2), (some (16, false)), true, false, []⟩,
  ⟨some 20, .ld none [] (.o 19), (some (16, false)), true, false, [19]⟩,
  ⟨some 21, .bin .sub (.c (.int .i64 2147483647)) (.o 20), (some (16, false)), true, false, [20]⟩,
  ⟨some 22, .ld (some 8) [] (.t 3), (some (16, false)), true, false, []⟩,
  ⟨some 23, .call (.c (.fn 86 [] [])) [.o 22], (some (16, false)), true, false, [22]⟩,
  ⟨some 24, .bin .add (.o 21) (.o 23), (some (16, false)), true, false, [21, 23]⟩,
  ⟨some 25, .call (.c (.fn 85 [] [])) [.o 18, .c (.int .i64 0), .o 24], (some (16, false)), true, false, [18, 24]⟩,
  ⟨some 26, .not (.o 25), (some (16, false)), true, false, [25]⟩,
  ⟨some 27, .pick (.t 16) (.c (.bool true)) (.t 26), none, false, false, [16, 26]⟩,
  ⟨some 28, .mv (.t 27), none, false, false, [27]⟩,
  ⟨some 29, .fa 2 (.t 3), (some (28, false)), true, false, []⟩,
  ⟨some 30, .ld none [] (.o 29), (some (28, false)), true, false, [29]⟩,
  ⟨some 31, .call (.c (.fn 85 [] [])) [.o 30, .c (.int .i64 0), .c (.int .i64 2147483647)], (some (28, false)), true, false, [30]⟩,
  ⟨some 32, .not (.o 31), (some (28, false)), true, false, [31]⟩,
  ⟨some 33, .pick (.t 28) (.c (.bool true)) (.t 32), none, false, false, [28, 32]⟩])
 (.cond (.t 33)
  (.seq (.ops 2 false [⟨some 4, .mv (.c (.bool false)), none, false, false, []⟩])
  (.ret))
  (.skip)))
 (.seq (.seq (.ops 3 false [⟨some 5, .mv (.c (.int .i64 0)), none, false, false, []⟩])
 (.block 0 (.loop [2, 3, 5] (.seq (.seq (.ops 4 false [⟨some 34, .mv (.t 5), none, false, false, []⟩,
    ⟨some 35, .fa 3 (.t 3), none, false, false, []⟩,
    ⟨some 36, .ld none [] (.t 35), none, false, false, [35]⟩,
    ⟨some 37, .len (.t 36), none, false, false, [36]⟩,
    ⟨some 38, .bin .lss (.t 34) (.t 37), none, false, false, [34, 37]⟩])
   (.cond (.t 38)
    (.skip)
    (.exit 0)))
   (.seq (.block 1 (.seq (.ops 6 true [⟨some 41, .ld (some 8) [] (.t 2), none, false, false, []⟩,
     ⟨some 42, .ld (some 8) [] (.t 3), none, false, false, []⟩,
     ⟨some 43, .fa 3 (.t 3), none, false, false, []⟩,
     ⟨some 44, .ld none [] (.t 43), none, false, false, [43]⟩,
     ⟨some 45, .mv (.t 5), none, false, false, []⟩,
     ⟨some 46, .ia 14 [.int .i64 0, .int .i64 0, .int .u64 0, .int .u64 0, .int .i64 0, .int .i64 0, .int .i64 0, .int .i64 0, .view [], .int .i64 0, .int .i64 0, .int .i64 0, .int .i64 0, .view []] (.t 44) (.t 45), none, false, false, [44, 45]⟩,
     ⟨some 47, .ld (some 14) [.int .i64 0, .int .i64 0, .int .u64 0, .int .u64 0, .int .i64 0, .int .i64 0, .int .i64 0, .int .i64 0, .view [], .int .i64 0, .int .i64 0, .int .i64 0, .int .i64 0, .view []] (.t 46), none, false, false, [46]⟩,
     ⟨some 48, .call (.c (.fn 87 [] [])) [.t 41, .t 42, .t 47], none, false, false, [41, 42, 47]⟩,
     ⟨some 49, .not (.t 48), none, false, false, [48]⟩])
    (.cond (.t 49)
     (.seq (.ops 7 false [⟨some 4, .mv (.c (.bool false)), none, false, false, []⟩])
     (.ret))
     (.skip))))
   (.ops 5 false [⟨some 39, .mv (.t 5), none, false, false, [5]⟩,
    ⟨some 40, .bin .add (.t 39) (.c (.int .i64 1)), none, false, false, [39]⟩,
    ⟨some 5, .mv (.t 40), none, false, false, [40]⟩]))))))
 (.seq (.seq (.ops 8 false [⟨some 6, .mv (.c (.int .i64 0)), none, false, false, []⟩])
 (.block 2 (.loop [3, 6] (.seq (.seq (.ops 9 false [⟨some 50, .mv (.t 6), none, false, false, []⟩,
    ⟨some 51, .fa 4 (.t 3), none, false, false, []⟩,
    ⟨some 52, .ld none [] (.t 51), none, false, false, [51]⟩,
    ⟨some 53, .len (.t 52), none, false, false, [52]⟩,
    ⟨some 54, .bin .lss (.t 50) (.t 53), none, false, false, [50, 53]⟩])
   (.cond (.t 54)
    (.skip)
    (.exit 2)))
   (.seq (.block 3 (.seq (.ops 11 false [⟨some 57, .fa 4 (.t 3), none, false, false, []⟩,
     ⟨some 58, .ld none [] (.t 57), none, false, false, [57]⟩,
     ⟨some 59, .mv (.t 6), none, false, false, []⟩,
     ⟨some 60, .ia 3 [.int .i64 0, .int .u64 0, .bool false] (.t 58) (.t 59), none, false, false, [58, 59]⟩,
     ⟨some 61, .fa 0 (.t 60), none, false, false, [60]⟩,
     ⟨some 62, .ld none [.int .i64 0, .int .u64 0, .bool false] (.t 61), none, false, false, [61]⟩,
     ⟨some 63, .call (.c (.fn 88 [] [])) [.t 62], none, false, false, [62]⟩,
     ⟨some 64, .not (.t 63), none, false, false, [63]⟩])
    (.cond (.t 64)
     (.seq (.ops 12 false [⟨some 4, .mv (.c (.bool false)), none, false, false, []⟩])
     (.ret))
     (.skip))))
   (.ops 10 false [⟨some 55, .mv (.t 6), none, false, false, [6]⟩,
    ⟨some 56, .bin .add (.t 55) (.c (.int .i64 1)), none, false, false, [55]⟩,
    ⟨some 6, .mv (.t 56), none, false, false, [56]⟩]))))))
 (.seq (.seq (.ops 13 false [⟨some 7, .mv (.c (.int .i64 0)), none, false, false, []⟩])
 (.block 4 (.loop [3, 7] (.seq (.seq (.ops 14 false [⟨some 65, .mv (.t 7), none, false, false, []⟩,
    ⟨some 66, .fa 5 (.t 3), none, false, false, []⟩,
    ⟨some 67, .ld none [] (.t 66), none, false, false, [66]⟩,
    ⟨some 68, .len (.t 67), none, false, false, [67]⟩,
    ⟨some 69, .bin .lss (.t 65) (.t 68), none, false, false, [65, 68]⟩])
   (.cond (.t 69)
    (.skip)
    (.exit 4)))
   (.seq (.block 5 (.seq (.ops 16 false [⟨some 72, .fa 5 (.t 3), none, false, false, []⟩,
     ⟨some 73, .ld none [] (.t 72), none, false, false, [72]⟩,
     ⟨some 74, .mv (.t 7), none, false, false, []⟩,
     ⟨some 75, .ia 3 [.int .i64 0, .int .u64 0, .bool false] (.t 73) (.t 74), none, false, false, [73, 74]⟩,
     ⟨some 76, .fa 0 (.t 75), none, false, false, [75]⟩,
     ⟨some 77, .ld none [.int .i64 0, .int .u64 0, .bool false] (.t 76), none, false, false, [76]⟩,
     ⟨some 78, .call (.c (.fn 88 [] [])) [.t 77], none, false, false, [77]⟩,
     ⟨some 79, .not (.t 78), none, false, false, [78]⟩])
    (.cond (.t 79)
     (.seq (.ops 17 false [⟨some 4, .mv (.c (.bool false)), none, false, false, []⟩])
     (.ret))
     (.skip))))
   (.ops 15 false [⟨some 70, .mv (.t 7), none, false, false, [7]⟩,
    ⟨some 71, .bin .add (.t 70) (.c (.int .i64 1)), none, false, false, [70]⟩,
    ⟨some 7, .mv (.t 71), none, false, false, [71]⟩]))))))
 (.seq (.seq (.ops 18 false [⟨some 8, .mv (.c (.int .i64 0)), none, false, false, []⟩])
 (.block 6 (.loop [3, 8] (.seq (.seq (.ops 19 false [⟨some 80, .mv (.t 8), none, false, false, []⟩,
    ⟨some 81, .fa 6 (.t 3), none, false, false, []⟩,
    ⟨some 82, .ld none [] (.t 81), none, false, false, [81]⟩,
    ⟨some 83, .len (.t 82), none, false, false, [82]⟩,
    ⟨some 84, .bin .lss (.t 80) (.t 83), none, false, false, [80, 83]⟩])
   (.cond (.t 84)
    (.skip)
    (.exit 6)))
   (.seq (.block 7 (.seq (.ops 21 true [⟨some 87, .ld (some 8) [] (.t 3), none, false, false, []⟩,
     ⟨some 88, .fa 6 (.t 3), none, false, false, []⟩,
     ⟨some 89, .ld none [] (.t 88), none, false, false, [88]⟩,
     ⟨some 90, .mv (.t 8), none, false, false, []⟩,
     ⟨some 91, .ia 7 [.int .i64 0, .int .i64 0, .int .i64 0, .int .i64 0, .int .i64 0, .int .i64 0, .view []] (.t 89) (.t 90), none, false, false, [89, 90]⟩,
     ⟨some 92, .ld (some 7) [.int .i64 0, .int .i64 0, .int .i64 0, .int .i64 0, .int .i64 0, .int .i64 0, .view []] (.t 91), none, false, false, [91]⟩,
     ⟨some 93, .call (.c (.fn 89 [] [])) [.t 87, .t 92], none, false, false, [87, 92]⟩,
     ⟨some 94, .not (.t 93), none, false, false, [93]⟩])
    (.cond (.t 94)
     (.seq (.ops 22 false [⟨some 4, .mv (.c (.bool false)), none, false, false, []⟩])
     (.ret))
     (.skip))))
   (.ops 20 false [⟨some 85, .mv (.t 8), none, false, false, [8]⟩,
    ⟨some 86, .bin .add (.t 85) (.c (.int .i64 1)), none, false, false, [85]⟩,
    ⟨some 8, .mv (.t 86), none, false, false, [86]⟩]))))))
 (.seq (.seq (.ops 23 false [⟨some 9, .mv (.c (.int .i64 0)), none, false, false, []⟩])
 (.block 8 (.loop [3, 9] (.seq (.seq (.ops 24 false [⟨some 95, .mv (.t 9), none, false, false, []⟩,
    ⟨some 96, .fa 7 (.t 3), none, false, false, []⟩,
    ⟨some 97, .ld none [] (.t 96), none, false, false, [96]⟩,
    ⟨some 98, .len (.t 97), none, false, false, [97]⟩,
    ⟨some 99, .bin .lss (.t 95) (.t 98), none, false, false, [95, 98]⟩])
   (.cond (.t 99)
    (.skip)
    (.exit 8)))
   (.seq (.block 9 (.seq (.ops 26 false [⟨some 102, .fa 7 (.t 3), none, false, false, []⟩,
     ⟨some 103, .ld none [] (.t 102), none, false, false, [102]⟩,
     ⟨some 104, .mv (.t 9), none, false, false, []⟩,
     ⟨some 105, .ia 3 [.int .i64 0, .int .i64 0, .view []] (.t 103) (.t 104), none, false, false, [103, 104]⟩,
     ⟨some 106, .fa 1 (.t 105), none, false, false, [105]⟩,
     ⟨some 107, .ld none [.int .i64 0, .int .i64 0, .view []] (.t 106), none, false, false, [106]⟩,
     ⟨some 108, .call (.c (.fn 85 [] [])) [.t 107, .c (.int .i64 0), .c (.int .i64 2147483647)], none, false, false, [107]⟩,
     ⟨some 109, .not (.t 108), none, false, false, [108]⟩,
     ⟨some 110, .mv (.t 109), none, false, false, [109]⟩,
     ⟨some 111, .fa 7 (.t 3), (some (110, false)), true, false, []⟩,
     ⟨some 112, .ld none [] (.o 111), (some (110, false)), true, false, [111]⟩,
     ⟨some 113, .mv (.t 9), (some (110, false)), true, false, []⟩,
     ⟨some 114, .ia 3 [.int .i64 0, .int .i64 0, .view []] (.o 112) (.o 113), (some (110, false)), true, false, [112, 113]⟩,
     ⟨some 115, .fa 2 (.o 114), (some (110, false)), true, false, [114]⟩,
     ⟨some 116, .ld none [.int .i64 0, .int .i64 0, .view []] (.o 115), (some (110, false)), true, false, [115]⟩,
     ⟨some 117, .call (.c (.fn 90 [] [])) [.o 116, .c (.int .i64 1), .c (.int .i64 2147483647)], (some (110, false)), true, false, [116]⟩,
     ⟨some 118, .not (.o 117), (some (110, false)), true, false, [117]⟩,
     ⟨some 119, .pick (.t 110) (.c (.bool true)) (.t 118), none, false, false, [110, 118]⟩])
    (.cond (.t 119)
     (.seq (.ops 27 false [⟨some 4, .mv (.c (.bool false)), none, false, false, []⟩])
     (.ret))
     (.skip))))
   (.ops 25 false [⟨some 100, .mv (.t 9), none, false, false, [9]⟩,
    ⟨some 101, .bin .add (.t 100) (.c (.int .i64 1)), none, false, false, [100]⟩,
    ⟨some 9, .mv (.t 101), none, false, false, [101]⟩]))))))
 (.seq (.ops 28 false [⟨some 4, .mv (.c (.bool true)), none, false, false, []⟩])
 (.ret))))))))
def rs_r30_bounds : List IRes := [.t 4]
theorem ok_r30_bounds : fnOk Tryz.prog 53 ic_r30_bounds rs_r30_bounds 120 = true := by kernel_rfl

/-- tallyman/tallymanref30.hands -/
def ic_r30_hands : ICode :=
 .seq (.ops 0 false [⟨some 2, .mv (.c (.bool false)), none, false, false, [2]⟩])
 (.seq (.seq (.ops 1 false [⟨some 3, .mv (.c (.int .i64 1)), none, false, false, []⟩])
 (.block 0 (.loop [0, 3] (.seq (.seq (.ops 2 false [⟨some 4, .mv (.t 3), none, false, false, []⟩,
    ⟨some 5, .mv (.t 0), none, false, false, []⟩,
    ⟨some 6, .len (.t 5), none, false, false, [5]⟩,
    ⟨some 7, .bin .lss (.t 4) (.t 6), none, false, false, [4, 6]⟩])
   (.cond (.t 7)
    (.skip)
    (.exit 0)))
   (.seq (.block 1 (.seq (.ops 4 true [⟨some 10, .mv (.t 0), none, false, false, []⟩,
     ⟨some 11, .mv (.t 3), none, false, false, []⟩,
     ⟨some 12, .ia 3 [.int .i64 0, .int .u64 0, .bool false] (.t 10) (.t 11), none, false, false, [10, 11]⟩,
     ⟨some 13, .fa 0 (.t 12), none, false, false, [12]⟩,
     ⟨some 14, .ld none [.int .i64 0, .int .u64 0, .bool false] (.t 13), none, false, false, [13]⟩,
     ⟨some 15, .mv (.t 0), none, false, false, []⟩,
     ⟨some 16, .mv (.t 3), none, false, false, []⟩,
     ⟨some 17, .bin .sub (.t 16) (.c (.int .i64 1)), none, false, false, [16]⟩,
     ⟨some 18, .ia 3 [.int .i64 0, .int .u64 0, .bool false] (.t 15) (.t 17), none, false, false, [15, 17]⟩,
     ⟨some 19, .fa 0 (.t 18), none, false, false, [18]⟩,
     ⟨some 20, .ld none [.int .i64 0, .int .u64 0, .bool false] (.t 19), none, false, false, [19]⟩,
     ⟨some 21, .bin .leq (.t 14) (.t 20), none, false, false, [14, 20]⟩])
    (.cond (.t 21)
     (.seq (.ops 5 false [⟨some 2, .mv (.c (.bool false)), none, false, false, []⟩])
     (.ret))
     (.skip))))
   (.ops 3 false [⟨some 8, .mv (.t 3), none, false, false, [3]⟩,
    ⟨some 9, .bin .add (.t 8) (.c (.int .i64 1)), none, false, false, [8]⟩,
    ⟨some 3, .mv (.t 9), none, false, false, [9]⟩]))))))
 (.seq (.ops 6 false [⟨some 2, .mv (.c (.bool true)), none, false, false, []⟩])
 (.ret)))
def rs_r30_hands : List IRes := [.t 2]
theorem ok_r30_hands : fnOk Tryz.prog 83 ic_r30_hands rs_r30_hands 22 = true := by kernel_rfl

/-- tallyman/tallymanref30.in -/
def ic_r30_in : ICode :=
 .seq (.ops 0 false [⟨some 6, .mv (.c (.bool false)), none, false, false, [6]⟩])
 (.seq (.ops 1 false [⟨some 7, .mv (.t 0), none, false, false, []⟩,
  ⟨some 8, .mv (.t 1), none, false, false, [1]⟩,
  ⟨some 9, .bin .geq (.t 7) (.t 8), none, false, false, [7, 8]⟩,
  ⟨some 10, .mv (.t 9), none, false, false, [9]⟩,
  ⟨some 11, .mv (.t 0), (some (10, true)), true, false, [0]⟩,
  ⟨some 12, .mv (.t 2), (some (10, true)), true, false, [2]⟩,
  ⟨some 13, .bin .leq (.o 11) (.o 12), (some (10, true)), true, false, [11, 12]⟩,
  ⟨some 14, .pick (.t 10) (.t 13) (.c (.bool false)), none, false, false, [10, 13]⟩,
  ⟨some 6, .mv (.t 14), none, false, false, [14]⟩])
 (.ret))
def rs_r30_in : List IRes := [.t 6]
theorem ok_r30_in : fnOk Tryz.prog 85 ic_r30_in rs_r30_in 15 = true := by kernel_rfl

/-- tallyman/tallymanref30.released -/
def ic_r30_released : ICode :=
 .seq (.ops 0 false [⟨some 1, .box (.t 0), none, false, false, [0]⟩,
  ⟨some 2, .mv (.c (.int .i64 0)), none, false, false, [2]⟩])
 (.seq (.ops 1 false [⟨some 3, .mv (.c (.int .i64 0)), none, false, false, []⟩])
 (.seq (.seq (.ops 2 false [⟨some 4, .mv (.c (.int .i64 0)), none, false, false, []⟩])
 (.block 0 (.loop [1, 3, 4] (.seq (.seq (.ops 3 false [⟨some 5, .mv (.t 4), none, false, false, []⟩,
    ⟨some 6, .fa 3 (.t 1), none, false, false, []⟩,
    ⟨some 7, .ld none [] (.t 6), none, false, false, [6]⟩,
    ⟨some 8, .len (.t 7), none, false, false, [7]⟩,
    ⟨some 9, .bin .lss (.t 5) (.t 8), none, false, false, [5, 8]⟩])
   (.cond (.t 9)
    (.skip)
    (.exit 0)))
   (.seq (.block 1 (.seq (.ops 5 false [⟨some 12, .fa 3 (.t 1), none, false, false, []⟩,
     ⟨some 13, .ld none [] (.t 12), none, false, false, [12]⟩,
     ⟨some 14, .mv (.t 4), none, false, false, []⟩,
     ⟨some 15, .ia 14 [.int .i64 0, .int .i64 0, .int .u64 0, .int .u64 0, .int .i64 0, .int .i64 0, .int .i64 0, .int .i64 0, .view [], .int .i64 0, .int .i64 0, .int .i64 0, .int .i64 0, .view []] (.t 13) (.t 14), none, false, false, [13, 14]⟩,
     ⟨some 16, .fa 10 (.t 15), none, false, false, [15]⟩,
     ⟨some 17, .ld none [.int .i64 0, .int .i64 0, .int .u64 0, .int .u64 0, .int .i64 0, .int .i64 0, .int .i64 0, .int .i64 0, .view [], .int .i64 0, .int .i64 0, .int .i64 0, .int .i64 0, .view []] (.t 16), none, false, false, [16]⟩,
     ⟨some 18, .bin .neq (.t 17) (.c (.int .i64 0)), none, false, false, [17]⟩])
    (.cond (.t 18)
     (.ops 6 false [⟨some 19, .mv (.t 3), none, false, false, [3]⟩,
      ⟨some 20, .bin .add (.t 19) (.c (.int .i64 1)), none, false, false, [19]⟩,
      ⟨some 3, .mv (.t 20), none, false, false, [20]⟩])
     (.skip))))
   (.ops 4 false [⟨some 10, .mv (.t 4), none, false, false, [4]⟩,
    ⟨some 11, .bin .add (.t 10) (.c (.int .i64 1)), none, false, false, [10]⟩,
    ⟨some 4, .mv (.t 11), none, false, false, [11]⟩]))))))
 (.seq (.ops 7 false [⟨some 21, .mv (.t 3), none, false, false, [3]⟩,
  ⟨some 2, .mv (.t 21), none, false, false, [21]⟩])
 (.ret))))
def rs_r30_released : List IRes := [.t 2]
theorem ok_r30_released : fnOk Tryz.prog 86 ic_r30_released rs_r30_released 22 = true := by kernel_rfl

/-- tallyman/tallymanref30.task -/
def ic_r30_task : ICode :=
 .seq (.ops 0 false [⟨some 3, .box (.t 0), none, false, false, [0]⟩,
  ⟨some 4, .box (.t 1), none, false, false, [1]⟩,
  ⟨some 5, .box (.t 2), none, false, false, [2]⟩,
  ⟨some 6, .mv (.c (.bool false)), none, false, false, [6]⟩])
 (.seq (.ops 1 false [⟨some 7, .fa 0 (.t 5), none, false, false, []⟩,
  ⟨some 8, .ld (some 9) [] (.t 7), none, false, false, [7]⟩,
  ⟨some 9, .call (.c (.fn 131 [] [])) [.t 8], none, false, false, [8]⟩,
  ⟨some 10, .bin .eql (.t 9) (.c (.int .i64 0)), none, false, false, [9]⟩,
  ⟨some 11, .mv (.t 10), none, false, false, [10]⟩,
  ⟨some 12, .fa 9 (.t 5), (some (11, true)), true, false, []⟩,
  ⟨some 13, .ld none [] (.o 12), (some (11, true)), true, false, [12]⟩,
  ⟨some 14, .call (.c (.fn 85 [] [])) [.o 13, .c (.int .i64 1), .c (.int .i64 6)], (some (11, true)), true, false, [13]⟩,
  ⟨some 15, .pick (.t 11) (.t 14) (.c (.bool false)), none, false, false, [11, 14]⟩,
  ⟨some 16, .mv (.t 15), none, false, false, [15]⟩,
  ⟨some 17, .fa 10 (.t 5), (some (16, true)), true, false, []⟩,
  ⟨some 18, .ld none [] (.o 17), (some (16, true)), true, false, [17]⟩,
  ⟨some 19, .fa 1 (.t 4), (some (16, true)), true, false, []⟩,
  ⟨some 20, .ld none [] (.o 19), (some (16, true)), true, false, [19]⟩,
  ⟨some 21, .call (.c (.fn 85 [] [])) [.o 18, .c (.int .i64 0), .o 20], (some (16, true)), true, false, [18, 20]⟩,
  ⟨some 22, .pick (.t 16) (.t 21) (.c (.bool false)), none, false, false, [16, 21]⟩,
  ⟨some 23, .mv (.t 22), none, false, false, [22]⟩,
  ⟨some 24, .fa 11 (.t 5), (some (23, true)), true, false, []⟩,
  ⟨some 25, .ld none [] (.o 24), (some (23, true)), true, false, [24]⟩,
  ⟨some 26, .fa 0 (.t 4), (some (23, true)), true, false, [4]⟩,
  ⟨some 27, .ld none [] (.o 26), (some (23, true)), true, false, [26]⟩,
  ⟨some 28, .call (.c (.fn 85 [] [])) [.o 25, .c (.int .i64 0), .o 27], (some (23, true)), true, false, [25, 27]⟩,
  ⟨some 29, .pick (.t 23) (.t 28) (.c (.bool false)), none, false, false, [23, 28]⟩,
  ⟨some 30, .mv (.t 29), none, false, false, [29]⟩,
  ⟨some 31, .fa 12 (.t 5), (some (30, true)), true, false, []⟩,
  ⟨some 32, .ld none [] (.o 31), (some (30, true)), true, false, [31]⟩,
  ⟨some 33, .fa 4 (.t 3), (some (30, true)), true, false, [3]⟩,
  ⟨some 34, .ld none [] (.o 33), (some (30, true)), true, false, [33]⟩,
  ⟨some 35, .call (.c (.fn 85 [] [])) [.o 32, .c (.int .i64 0), .o 34], (some (30, true)), true, false, [32, 34]⟩,
  ⟨some 36, .pick (.t 30) (.t 35) (.c (.bool false)), none, false, false, [30, 35]⟩,
  ⟨some 37, .mv (.t 36), none, false, false, [36]⟩,
  ⟨some 38, .fa 13 (.t 5), (some (37, true)), true, false, [5]⟩,
  ⟨some 39, .ld none [] (.o 38), (some (37, true)), true, false, [38]⟩,
  ⟨some 40, .call (.c (.fn 90 [] [])) [.o 39, .c (.int .i64 1), .c (.int .i64 999)], (some (37, true)), true, false, [39]⟩,
  ⟨some 41, .pick (.t 37) (.t 40) (.c (.bool false)), none, false, false, [37, 40]⟩,
  ⟨some 6, .mv (.t 41), none, false, false, [41]⟩])
 (.ret))
def rs_r30_task : List IRes := [.t 6]
theorem ok_r30_task : fnOk Tryz.prog 87 ic_r30_task rs_r30_task 42 = true := by kernel_rfl

/-- tallyman/tallymanref30.lease -/
def ic_r30_lease : ICode :=
 .seq (.ops 0 false [⟨some 2, .box (.t 0), none, false, false, [0]⟩,
  ⟨some 3, .box (.t 1), none, false, false, [1]⟩,
  ⟨some 4, .mv (.c (.bool false)), none, false, false, [4]⟩])
 (.seq (.ops 1 false [⟨some 5, .fa 0 (.t 3), none, false, false, []⟩,
  ⟨some 6, .ld none [] (.t 5), none, false, false, [5]⟩,
  ⟨some 7, .fa 2 (.t 2), none, false, false, [2]⟩,
  ⟨some 8, .ld none [] (.t 7), none, false, false, [7]⟩,
  ⟨some 9, .call (.c (.fn 85 [] [])) [.t 6, .c (.int .i64 1), .t 8], none, false, false, [6, 8]⟩,
  ⟨some 10, .mv (.t 9), none, false, false, [9]⟩,
  ⟨some 11, .fa 1 (.t 3), (some (10, true)), true, false, []⟩,
  ⟨some 12, .ld none [] (.o 11), (some (10, true)), true, false, [11]⟩,
  ⟨some 13, .call (.c (.fn 85 [] [])) [.o 12, .c (.int .i64 1), .c (.int .i64 999)], (some (10, true)), true, false, [12]⟩,
  ⟨some 14, .pick (.t 10) (.t 13) (.c (.bool false)), none, false, false, [10, 13]⟩,
  ⟨some 15, .mv (.t 14), none, false, false, [14]⟩,
  ⟨some 16, .fa 2 (.t 3), (some (15, true)), true, false, []⟩,
  ⟨some 17, .ld none [] (.o 16), (some (15, true)), true, false, [16]⟩,
  ⟨some 18, .call (.c (.fn 85 [] [])) [.o 17, .c (.int .i64 1), .c (.int .i64 999)], (some (15, true)), true, false, [17]⟩,
  ⟨some 19, .pick (.t 15) (.t 18) (.c (.bool false)), none, false, false, [15, 18]⟩,
  ⟨some 20, .mv (.t 19), none, false, false, [19]⟩,
  ⟨some 21, .fa 3 (.t 3), (some (20, true)), true, false, []⟩,
  ⟨some 22, .ld none [] (.o 21), (some (20, true)), true, false, [21]⟩,
  ⟨some 23, .call (.c (.fn 85 [] [])) [.o 22, .c (.int .i64 1), .c (.int .i64 999)], (some (20, true)), true, false, [22]⟩,
  ⟨some 24, .pick (.t 20) (.t 23) (.c (.bool false)), none, false, false, [20, 23]⟩,
  ⟨some 25, .mv (.t 24), none, false, false, [24]⟩,
  ⟨some 26, .fa 4 (.t 3), (some (25, true)), true, false, []⟩,
  ⟨some 27, .ld none [] (.o 26), (some (25, true)), true, false, [26]⟩,
  ⟨some 28, .call (.c (.fn 85 [] [])) [.o 27, .c (.int .i64 (-1)), .c (.int .i64 2147483647)], (some (25, true)), true, false, [27]⟩,
  ⟨some 29, .pick (.t 25) (.t 28) (.c (.bool false)), none, false, false, [25, 28]⟩,
  ⟨some 30, .mv (.t 29), none, false, false, [29]⟩,
  ⟨some 31, .fa 5 (.t 3), (some (30, true)), true, false, []⟩,
  ⟨some 32, .ld none [] (.o 31), (some (30, true)), true, false, [31]⟩,
  ⟨some 33, .fa 6 (.t 3), (some (30, true)), true, false, [3]⟩,
  ⟨some 34, .ld none [] (.o 33), (some (30, true)), true, false, [33]⟩,
  ⟨some 35, .len (.o 34), (some (30, true)), true, false, [34]⟩,
  ⟨some 36, .call (.c (.fn 85 [] [])) [.o 32, .c (.int .i64 0), .o 35], (some (30, true)), true, false, [32, 35]⟩,
  ⟨some 37, .pick (.t 30) (.t 36) (.c (.bool false)), none, false, false, [30, 36]⟩,
  ⟨some 4, .mv (.t 37), none, false, false, [37]⟩])
 (.ret))
def rs_r30_lease : List IRes := [.t 4]
theorem ok_r30_lease : fnOk Tryz.prog 89 ic_r30_lease rs_r30_lease 38 = true := by kernel_rfl

/-- tallyman/tallymanref30.all -/
def ic_r30_all : ICode :=
 .seq (.ops 0 false [⟨some 6, .mv (.c (.bool false)), none, false, false, [6]⟩])
 (.seq (.seq (.ops 1 false [⟨some 7, .mv (.c (.int .i64 0)), none, false, false, []⟩])
 (.block 0 (.loop [0, 1, 2, 7] (.seq (.seq (.ops 2 false [⟨some 8, .mv (.t 7), none, false, false, []⟩,
    ⟨some 9, .mv (.t 0), none, false, false, []⟩,
    ⟨some 10, .len (.t 9), none, false, false, [9]⟩,
    ⟨some 11, .bin .lss (.t 8) (.t 10), none, false, false, [8, 10]⟩])
   (.cond (.t 11)
    (.skip)
    (.exit 0)))
   (.seq (.block 1 (.seq (.ops 4 false [⟨some 14, .mv (.t 0), none, false, false, []⟩,
     ⟨some 15, .mv (.t 7), none, false, false, []⟩,
     ⟨some 16, .ia 1 [.int .i64 0] (.t 14) (.t 15), none, false, false, [14, 15]⟩,
     ⟨some 17, .ld none [.int .i64 0] (.t 16), none, false, false, [16]⟩,
     ⟨some 18, .mv (.t 1), none, false, false, []⟩,
     ⟨some 19, .mv (.t 2), none, false, false, []⟩,
     ⟨some 20, .call (.c (.fn 85 [] [])) [.t 17, .t 18, .t 19], none, false, false, [17, 18, 19]⟩,
     ⟨some 21, .not (.t 20), none, false, false, [20]⟩])
    (.cond (.t 21)
     (.seq (.ops 5 false [⟨some 6, .mv (.c (.bool false)), none, false, false, []⟩])
     (.ret))
     (.skip))))
   (.ops 3 false [⟨some 12, .mv (.t 7), none, false, false, [7]⟩,
    ⟨some 13, .bin .add (.t 12) (.c (.int .i64 1)), none, false, false, [12]⟩,
    ⟨some 7, .mv (.t 13), none, false, false, [13]⟩]))))))
 (.seq (.ops 6 false [⟨some 6, .mv (.c (.bool true)), none, false, false, []⟩])
 (.ret)))
def rs_r30_all : List IRes := [.t 6]
theorem ok_r30_all : fnOk Tryz.prog 90 ic_r30_all rs_r30_all 22 = true := by kernel_rfl

end Go.Proofs.YtnckibgcjgeekaaGreat.Sx
