/- Functions of the seat in the small language. No conditions: a kit of our own. -/
import Derived.Test.YtfjidignjjaihaaProg
import Derived.Test.YtfjidignjjaihaaSx17
namespace Go.Proofs.Ytfjidignjjaihaa.Sx
open Go Go.RowKit
set_option linter.unusedVariables false

/-- (tallyman/step.pair).counts -/
def ic_step_pair_counts : ICode :=
 .seq (.ops 0 false [⟨some 1, .box (.t 0), none, false, false, [0]⟩,
  ⟨some 2, .mv (.c (.bool false)), none, false, false, [2]⟩])
 (.seq (.ops 1 false [⟨some 3, .ld (some 16) [] (.t 1), none, false, false, [1]⟩,
  ⟨some 4, .call (.c (.fn 132 [] [])) [.t 3, .c (.fn 134 [] [])], none, false, false, [3]⟩,
  ⟨some 2, .mv (.t 4), none, false, false, [4]⟩])
 (.ret))
def rs_step_pair_counts : List IRes := [.t 2]
theorem ok_step_pair_counts : fnOk Try.prog 71 ic_step_pair_counts rs_step_pair_counts 5 = true := by kernel_rfl

/-- (tallyman/step.pair).counts$1 -/
def ic_step_pair_counts_1 : ICode :=
 .seq (.ops 0 false [⟨some 3, .box (.t 0), none, false, false, [0]⟩,
  ⟨some 4, .box (.t 1), none, false, false, [1]⟩,
  ⟨some 6, .mv (.c (.bool false)), none, false, false, [6]⟩])
 (.seq (.ops 1 false [⟨some 8, .fa 10 (.t 3), none, false, false, []⟩,
  ⟨some 9, .ld none [] (.t 8), none, false, false, [8]⟩,
  ⟨some 10, .bin .eql (.t 9) (.c (.int .i64 0)), none, false, false, [9]⟩,
  ⟨some 11, .mv (.t 10), none, false, false, [10]⟩,
  ⟨some 12, .fa 10 (.t 3), (some (11, false)), true, false, []⟩,
  ⟨some 13, .ld none [] (.o 12), (some (11, false)), true, false, [12]⟩,
  ⟨some 14, .fa 10 (.t 4), (some (11, false)), true, false, []⟩,
  ⟨some 15, .ld none [] (.o 14), (some (11, false)), true, false, [14]⟩,
  ⟨some 16, .bin .eql (.o 13) (.o 15), (some (11, false)), true, false, [13, 15]⟩,
  ⟨some 17, .mv (.o 16), (some (11, false)), true, false, [16]⟩,
  ⟨some 18, .fa 11 (.t 3), (some (17, true)), true, false, []⟩,
  ⟨some 19, .ld none [] (.o 18), (some (17, true)), true, false, [18]⟩,
  ⟨some 20, .fa 11 (.t 4), (some (17, true)), true, false, []⟩,
  ⟨some 21, .ld none [] (.o 20), (some (17, true)), true, false, [20]⟩,
  ⟨some 22, .bin .eql (.o 19) (.o 21), (some (17, true)), true, false, [19, 21]⟩,
  ⟨some 23, .pick (.o 17) (.t 22) (.c (.bool false)), (some (11, false)), true, false, [17, 22]⟩,
  ⟨some 24, .pick (.t 11) (.c (.bool true)) (.t 23), none, false, false, [11, 23]⟩,
  ⟨some 7, .mv (.t 24), none, false, false, [24]⟩])
 (.seq (.ops 2 false [⟨some 25, .mv (.t 2), none, false, false, [2]⟩,
  ⟨some 26, .not (.t 25), none, false, false, [25]⟩,
  ⟨some 27, .mv (.t 26), none, false, false, [26]⟩,
  ⟨some 28, .fa 12 (.t 3), (some (27, false)), true, false, []⟩,
  ⟨some 29, .ld none [] (.o 28), (some (27, false)), true, false, [28]⟩,
  ⟨some 30, .fa 12 (.t 4), (some (27, false)), true, false, []⟩,
  ⟨some 31, .ld none [] (.o 30), (some (27, false)), true, false, [30]⟩,
  ⟨some 32, .bin .leq (.o 29) (.o 31), (some (27, false)), true, false, [29, 31]⟩,
  ⟨some 33, .mv (.o 32), (some (27, false)), true, false, [32]⟩,
  ⟨some 34, .fa 13 (.t 3), (some (33, true)), true, false, [3]⟩,
  ⟨some 35, .ld none [] (.o 34), (some (33, true)), true, false, [34]⟩,
  ⟨some 36, .fa 13 (.t 4), (some (33, true)), true, false, [4]⟩,
  ⟨some 37, .ld none [] (.o 36), (some (33, true)), true, false, [36]⟩,
  ⟨some 38, .call (.c (.fn 135 [] [])) [.o 35, .o 37], (some (33, true)), true, false, [35, 37]⟩,
  ⟨some 39, .pick (.o 33) (.t 38) (.c (.bool false)), (some (27, false)), true, false, [33, 38]⟩,
  ⟨some 40, .mv (.o 39), (some (27, false)), true, false, [39]⟩,
  ⟨some 41, .mv (.t 7), (some (40, true)), true, false, [7]⟩,
  ⟨some 42, .pick (.o 40) (.t 41) (.c (.bool false)), (some (27, false)), true, false, [40, 41]⟩,
  ⟨some 43, .pick (.t 27) (.c (.bool true)) (.t 42), none, false, false, [27, 42]⟩,
  ⟨some 6, .mv (.t 43), none, false, false, [43]⟩])
 (.ret)))
def rs_step_pair_counts_1 : List IRes := [.t 6]
theorem ok_step_pair_counts_1 : fnOk Try.prog 134 ic_step_pair_counts_1 rs_step_pair_counts_1 44 = true := by kernel_rfl

/-- (tallyman/step.pair).leases -/
def ic_step_pair_leases : ICode :=
 .seq (.ops 0 false [⟨some 1, .box (.t 0), none, false, false, [0]⟩,
  ⟨some 2, .mv (.c (.bool false)), none, false, false, [2]⟩])
 (.seq (.seq (.ops 1 false [⟨some 13, .fa 0 (.t 1), none, false, false, []⟩,
  ⟨some 14, .fa 6 (.t 13), none, false, false, [13]⟩,
  ⟨some 15, .ld none [] (.t 14), none, false, false, [14]⟩,
  ⟨some 16, .len (.t 15), none, false, false, []⟩,
  ⟨some 17, .mv (.c (.int .i64 0)), none, false, false, []⟩])
 (.block 0 (.loop [1, 15, 16, 17] (.seq (.ops 2 false [⟨some 18, .bin .lss (.t 17) (.t 16), none, false, false, []⟩])
   (.seq (.cond (.t 18)
    (.skip)
    (.exit 0))
   (.seq (.block 1 (.seq (.ops 3 false [⟨some 19, .ia 7 [.int .i64 0, .int .i64 0, .int .i64 0, .int .i64 0, .int .i64 0, .int .i64 0, .view []] (.t 15) (.t 17), none, false, false, []⟩,
     ⟨some 20, .ld (some 7) [.int .i64 0, .int .i64 0, .int .i64 0, .int .i64 0, .int .i64 0, .int .i64 0, .view []] (.t 19), none, false, false, [19]⟩,
     ⟨some 4, .alloc [.int .i64 0, .int .i64 0, .int .i64 0, .int .i64 0, .int .i64 0, .int .i64 0, .nils], none, false, false, []⟩,
     ⟨none, .st 7 (.t 4) (.t 20), none, false, false, [20]⟩])
    (.seq (.ops 4 false [⟨some 22, .fa 0 (.t 1), none, false, false, []⟩,
     ⟨some 23, .ld (some 8) [] (.t 22), none, false, false, [22]⟩,
     ⟨some 24, .fa 0 (.t 4), none, false, false, []⟩,
     ⟨some 25, .ld none [] (.t 24), none, false, false, [24]⟩,
     ⟨some 26, .call (.c (.fn 137 [] [])) [.t 23, .t 25], none, false, false, [23, 25]⟩,
     ⟨some 21, .mv (.t 26), none, false, false, [26]⟩,
     ⟨some 27, .ext 0 (.t 21), none, false, false, []⟩,
     ⟨some 28, .ext 1 (.t 21), none, false, false, [21]⟩,
     ⟨some 5, .alloc [.int .i64 0, .int .i64 0, .int .i64 0, .int .i64 0, .int .i64 0, .int .i64 0, .nils], none, false, false, []⟩,
     ⟨none, .st 7 (.t 5) (.t 27), none, false, false, [27]⟩,
     ⟨some 6, .mv (.t 28), none, false, false, [6, 28]⟩])
    (.seq (.ops 5 false [⟨some 30, .fa 8 (.t 1), none, false, false, []⟩,
     ⟨some 31, .ld (some 8) [] (.t 30), none, false, false, [30]⟩,
     ⟨some 32, .fa 0 (.t 4), none, false, false, [4]⟩,
     ⟨some 33, .ld none [] (.t 32), none, false, false, [32]⟩,
     ⟨some 34, .call (.c (.fn 137 [] [])) [.t 31, .t 33], none, false, false, [31, 33]⟩,
     ⟨some 29, .mv (.t 34), none, false, false, [34]⟩,
     ⟨some 35, .ext 0 (.t 29), none, false, false, []⟩,
     ⟨some 36, .ext 1 (.t 29), none, false, false, [29]⟩,
     ⟨some 7, .alloc [.int .i64 0, .int .i64 0, .int .i64 0, .int .i64 0, .int .i64 0, .int .i64 0, .nils], none, false, false, []⟩,
     ⟨none, .st 7 (.t 7) (.t 35), none, false, false, [35]⟩,
     ⟨some 8, .mv (.t 36), none, false, false, [36]⟩])
    (.seq (.ops 6 false [⟨some 37, .mv (.t 8), none, false, false, [8]⟩,
     ⟨some 38, .mv (.t 37), none, false, false, [37]⟩,
     ⟨some 39, .ld (some 7) [] (.t 5), (some (38, true)), true, false, [5]⟩,
     ⟨some 40, .ld (some 7) [] (.t 7), (some (38, true)), true, false, [7]⟩,
     ⟨some 41, .call (.c (.fn 138 [] [])) [.o 39, .o 40], (some (38, true)), true, false, [39, 40]⟩,
     ⟨some 42, .not (.o 41), (some (38, true)), true, false, [41]⟩,
     ⟨some 43, .pick (.t 38) (.t 42) (.c (.bool false)), none, false, false, [38, 42]⟩])
    (.cond (.t 43)
     (.seq (.ops 7 false [⟨some 2, .mv (.c (.bool false)), none, false, false, []⟩])
     (.ret))
     (.skip)))))))
   (.ops 8 false [⟨some 44, .bin .add (.t 17) (.c (.int .i64 1)), none, false, false, [17]⟩,
    ⟨some 17, .mv (.t 44), none, false, false, [44]⟩])))))))
 (.seq (.seq (.ops 9 false [⟨some 45, .fa 8 (.t 1), none, false, false, []⟩,
  ⟨some 46, .fa 6 (.t 45), none, false, false, [45]⟩,
  ⟨some 47, .ld none [] (.t 46), none, false, false, [46]⟩,
  ⟨some 48, .len (.t 47), none, false, false, []⟩,
  ⟨some 49, .mv (.c (.int .i64 0)), none, false, false, []⟩])
 (.block 2 (.loop [1, 47, 48, 49] (.seq (.ops 10 false [⟨some 50, .bin .lss (.t 49) (.t 48), none, false, false, []⟩])
   (.seq (.cond (.t 50)
    (.skip)
    (.exit 2))
   (.seq (.block 3 (.seq (.ops 11 false [⟨some 51, .ia 7 [.int .i64 0, .int .i64 0, .int .i64 0, .int .i64 0, .int .i64 0, .int .i64 0, .view []] (.t 47) (.t 49), none, false, false, []⟩,
     ⟨some 52, .ld (some 7) [.int .i64 0, .int .i64 0, .int .i64 0, .int .i64 0, .int .i64 0, .int .i64 0, .view []] (.t 51), none, false, false, [51]⟩,
     ⟨some 10, .alloc [.int .i64 0, .int .i64 0, .int .i64 0, .int .i64 0, .int .i64 0, .int .i64 0, .nils], none, false, false, []⟩,
     ⟨none, .st 7 (.t 10) (.t 52), none, false, false, [52]⟩])
    (.seq (.ops 12 false [⟨some 54, .fa 0 (.t 1), none, false, false, []⟩,
     ⟨some 55, .ld (some 8) [] (.t 54), none, false, false, [54]⟩,
     ⟨some 56, .fa 0 (.t 10), none, false, false, []⟩,
     ⟨some 57, .ld none [] (.t 56), none, false, false, [56]⟩,
     ⟨some 58, .call (.c (.fn 137 [] [])) [.t 55, .t 57], none, false, false, [55, 57]⟩,
     ⟨some 53, .mv (.t 58), none, false, false, [58]⟩,
     ⟨some 59, .ext 0 (.t 53), none, false, false, []⟩,
     ⟨some 60, .ext 1 (.t 53), none, false, false, [53]⟩,
     ⟨some 11, .alloc [.int .i64 0, .int .i64 0, .int .i64 0, .int .i64 0, .int .i64 0, .int .i64 0, .nils], none, false, false, []⟩,
     ⟨none, .st 7 (.t 11) (.t 59), none, false, false, [11, 59]⟩,
     ⟨some 12, .mv (.t 60), none, false, false, [60]⟩])
    (.seq (.ops 13 false [⟨some 61, .mv (.t 12), none, false, false, [12]⟩,
     ⟨some 62, .not (.t 61), none, false, false, [61]⟩,
     ⟨some 63, .mv (.t 62), none, false, false, [62]⟩,
     ⟨some 64, .fa 0 (.t 10), (some (63, true)), true, false, [10]⟩,
     ⟨some 65, .ld none [] (.o 64), (some (63, true)), true, false, [64]⟩,
     ⟨some 66, .fa 0 (.t 1), (some (63, true)), true, false, []⟩,
     ⟨some 67, .fa 2 (.o 66), (some (63, true)), true, false, [66]⟩,
     ⟨some 68, .ld none [] (.o 67), (some (63, true)), true, false, [67]⟩,
     ⟨some 69, .bin .leq (.o 65) (.o 68), (some (63, true)), true, false, [65, 68]⟩,
     ⟨some 70, .pick (.t 63) (.t 69) (.c (.bool false)), none, false, false, [63, 69]⟩])
    (.cond (.t 70)
     (.seq (.ops 14 false [⟨some 2, .mv (.c (.bool false)), none, false, false, []⟩])
     (.ret))
     (.skip))))))
   (.ops 15 false [⟨some 71, .bin .add (.t 49) (.c (.int .i64 1)), none, false, false, [49]⟩,
    ⟨some 49, .mv (.t 71), none, false, false, [71]⟩])))))))
 (.seq (.ops 16 false [⟨some 2, .mv (.c (.bool true)), none, false, false, []⟩])
 (.ret))))
def rs_step_pair_leases : List IRes := [.t 2]
theorem ok_step_pair_leases : fnOk Try.prog 75 ic_step_pair_leases rs_step_pair_leases 72 = true := by kernel_rfl

/-- (tallyman/step.pair).people -/
def ic_step_pair_people : ICode :=
 .seq (.ops 0 false [⟨some 1, .box (.t 0), none, false, false, [0]⟩,
  ⟨some 2, .mv (.c (.bool false)), none, false, false, [2]⟩])
 (.seq (.ops 1 false [⟨some 3, .fa 0 (.t 1), none, false, false, []⟩,
  ⟨some 4, .fa 4 (.t 3), none, false, false, [3]⟩,
  ⟨some 5, .ld none [] (.t 4), none, false, false, [4]⟩,
  ⟨some 6, .fa 8 (.t 1), none, false, false, []⟩,
  ⟨some 7, .fa 4 (.t 6), none, false, false, [6]⟩,
  ⟨some 8, .ld none [] (.t 7), none, false, false, [7]⟩,
  ⟨some 9, .call (.c (.fn 136 [] [])) [.t 5, .t 8], none, false, false, [5, 8]⟩,
  ⟨some 10, .mv (.t 9), none, false, false, [9]⟩,
  ⟨some 11, .fa 0 (.t 1), (some (10, true)), true, false, []⟩,
  ⟨some 12, .fa 5 (.o 11), (some (10, true)), true, false, [11]⟩,
  ⟨some 13, .ld none [] (.o 12), (some (10, true)), true, false, [12]⟩,
  ⟨some 14, .fa 8 (.t 1), (some (10, true)), true, false, [1]⟩,
  ⟨some 15, .fa 5 (.o 14), (some (10, true)), true, false, [14]⟩,
  ⟨some 16, .ld none [] (.o 15), (some (10, true)), true, false, [15]⟩,
  ⟨some 17, .call (.c (.fn 136 [] [])) [.o 13, .o 16], (some (10, true)), true, false, [13, 16]⟩,
  ⟨some 18, .pick (.t 10) (.t 17) (.c (.bool false)), none, false, false, [10, 17]⟩,
  ⟨some 2, .mv (.t 18), none, false, false, [18]⟩])
 (.ret))
def rs_step_pair_people : List IRes := [.t 2]
theorem ok_step_pair_people : fnOk Try.prog 73 ic_step_pair_people rs_step_pair_people 19 = true := by kernel_rfl

/-- (tallyman/step.pair).rises -/
def ic_step_pair_rises : ICode :=
 .seq (.ops 0 false [⟨some 1, .box (.t 0), none, false, false, [0]⟩,
  ⟨some 2, .mv (.c (.bool false)), none, false, false, [2]⟩])
 (.seq (.ops 1 false [⟨some 3, .fa 0 (.t 1), none, false, false, []⟩,
  ⟨some 4, .fa 0 (.t 3), none, false, false, [3]⟩,
  ⟨some 5, .ld none [] (.t 4), none, false, false, [4]⟩,
  ⟨some 6, .fa 8 (.t 1), none, false, false, []⟩,
  ⟨some 7, .fa 0 (.t 6), none, false, false, [6]⟩,
  ⟨some 8, .ld none [] (.t 7), none, false, false, [7]⟩,
  ⟨some 9, .bin .leq (.t 5) (.t 8), none, false, false, [5, 8]⟩,
  ⟨some 10, .mv (.t 9), none, false, false, [9]⟩,
  ⟨some 11, .fa 0 (.t 1), (some (10, true)), true, false, []⟩,
  ⟨some 12, .fa 1 (.o 11), (some (10, true)), true, false, [11]⟩,
  ⟨some 13, .ld none [] (.o 12), (some (10, true)), true, false, [12]⟩,
  ⟨some 14, .fa 8 (.t 1), (some (10, true)), true, false, []⟩,
  ⟨some 15, .fa 1 (.o 14), (some (10, true)), true, false, [14]⟩,
  ⟨some 16, .ld none [] (.o 15), (some (10, true)), true, false, [15]⟩,
  ⟨some 17, .bin .leq (.o 13) (.o 16), (some (10, true)), true, false, [13, 16]⟩,
  ⟨some 18, .pick (.t 10) (.t 17) (.c (.bool false)), none, false, false, [10, 17]⟩,
  ⟨some 19, .mv (.t 18), none, false, false, [18]⟩,
  ⟨some 20, .fa 0 (.t 1), (some (19, true)), true, false, []⟩,
  ⟨some 21, .fa 2 (.o 20), (some (19, true)), true, false, [20]⟩,
  ⟨some 22, .ld none [] (.o 21), (some (19, true)), true, false, [21]⟩,
  ⟨some 23, .fa 8 (.t 1), (some (19, true)), true, false, [1]⟩,
  ⟨some 24, .fa 2 (.o 23), (some (19, true)), true, false, [23]⟩,
  ⟨some 25, .ld none [] (.o 24), (some (19, true)), true, false, [24]⟩,
  ⟨some 26, .bin .leq (.o 22) (.o 25), (some (19, true)), true, false, [22, 25]⟩,
  ⟨some 27, .pick (.t 19) (.t 26) (.c (.bool false)), none, false, false, [19, 26]⟩,
  ⟨some 2, .mv (.t 27), none, false, false, [27]⟩])
 (.ret))
def rs_step_pair_rises : List IRes := [.t 2]
theorem ok_step_pair_rises : fnOk Try.prog 67 ic_step_pair_rises rs_step_pair_rises 28 = true := by kernel_rfl

/-- (tallyman/step.pair).stays -/
def ic_step_pair_stays : ICode :=
 .seq (.ops 0 false [⟨some 1, .box (.t 0), none, false, false, [0]⟩,
  ⟨some 2, .mv (.c (.bool false)), none, false, false, [2]⟩])
 (.seq (.ops 1 false [⟨some 3, .ld (some 16) [] (.t 1), none, false, false, [1]⟩,
  ⟨some 4, .call (.c (.fn 132 [] [])) [.t 3, .c (.fn 133 [] [])], none, false, false, [3]⟩,
  ⟨some 2, .mv (.t 4), none, false, false, [4]⟩])
 (.ret))
def rs_step_pair_stays : List IRes := [.t 2]
theorem ok_step_pair_stays : fnOk Try.prog 69 ic_step_pair_stays rs_step_pair_stays 5 = true := by kernel_rfl

/-- (tallyman/step.pair).stays$1 -/
def ic_step_pair_stays_1 : ICode :=
 .seq (.ops 0 false [⟨some 3, .box (.t 0), none, false, false, [0]⟩,
  ⟨some 4, .box (.t 1), none, false, false, [1]⟩,
  ⟨some 6, .mv (.c (.bool false)), none, false, false, [6]⟩])
 (.seq (.ops 1 false [⟨some 7, .mv (.t 2), none, false, false, [2]⟩,
  ⟨some 8, .mv (.t 7), none, false, false, [7]⟩,
  ⟨some 9, .fa 0 (.t 3), (some (8, true)), true, false, []⟩,
  ⟨some 10, .ld (some 9) [] (.o 9), (some (8, true)), true, false, [9]⟩,
  ⟨some 11, .fa 0 (.t 4), (some (8, true)), true, false, []⟩,
  ⟨some 12, .ld (some 9) [] (.o 11), (some (8, true)), true, false, [11]⟩,
  ⟨some 13, .call (.c (.fn 22 [] [])) [.o 10, .o 12], (some (8, true)), true, false, [10, 12]⟩,
  ⟨some 14, .pick (.t 8) (.t 13) (.c (.bool false)), none, false, false, [8, 13]⟩,
  ⟨some 15, .mv (.t 14), none, false, false, [14]⟩,
  ⟨some 16, .fa 9 (.t 3), (some (15, true)), true, false, []⟩,
  ⟨some 17, .ld none [] (.o 16), (some (15, true)), true, false, [16]⟩,
  ⟨some 18, .bin .lss (.o 17) (.c (.int .i64 4)), (some (15, true)), true, false, [17]⟩,
  ⟨some 19, .mv (.o 18), (some (15, true)), true, false, [18]⟩,
  ⟨some 20, .fa 9 (.t 3), (some (19, false)), true, false, []⟩,
  ⟨some 21, .ld none [] (.o 20), (some (19, false)), true, false, [20]⟩,
  ⟨some 22, .bin .gtr (.o 21) (.c (.int .i64 6)), (some (19, false)), true, false, [21]⟩,
  ⟨some 23, .pick (.o 19) (.c (.bool true)) (.t 22), (some (15, true)), true, false, [19, 22]⟩,
  ⟨some 24, .mv (.o 23), (some (15, true)), true, false, [23]⟩,
  ⟨some 25, .fa 9 (.t 3), (some (24, false)), true, false, [3]⟩,
  ⟨some 26, .ld none [] (.o 25), (some (24, false)), true, false, [25]⟩,
  ⟨some 27, .fa 9 (.t 4), (some (24, false)), true, false, [4]⟩,
  ⟨some 28, .ld none [] (.o 27), (some (24, false)), true, false, [27]⟩,
  ⟨some 29, .bin .eql (.o 26) (.o 28), (some (24, false)), true, false, [26, 28]⟩,
  ⟨some 30, .pick (.o 24) (.c (.bool true)) (.t 29), (some (15, true)), true, false, [24, 29]⟩,
  ⟨some 31, .pick (.t 15) (.t 30) (.c (.bool false)), none, false, false, [15, 30]⟩,
  ⟨some 6, .mv (.t 31), none, false, false, [31]⟩])
 (.ret))
def rs_step_pair_stays_1 : List IRes := [.t 6]
theorem ok_step_pair_stays_1 : fnOk Try.prog 133 ic_step_pair_stays_1 rs_step_pair_stays_1 32 = true := by kernel_rfl

/-- (tallyman/step.pair).tasks -/
def ic_step_pair_tasks : ICode :=
 .seq (.ops 0 false [⟨some 2, .box (.t 0), none, false, false, [0]⟩,
  ⟨some 3, .box (.t 1), none, false, false, [1]⟩,
  ⟨some 4, .mv (.c (.bool false)), none, false, false, [4]⟩])
 (.seq (.ops 1 false [⟨some 5, .fa 0 (.t 2), none, false, false, []⟩,
  ⟨some 6, .fa 3 (.t 5), none, false, false, [5]⟩,
  ⟨some 7, .ld none [] (.t 6), none, false, false, [6]⟩,
  ⟨some 8, .mkfn 190 [] [.t 2, .t 3], none, false, false, [2, 3]⟩,
  ⟨some 9, .call (.c (.fn 189 [] [])) [.t 7, .t 8], none, false, false, [7, 8]⟩,
  ⟨some 10, .not (.t 9), none, false, false, [9]⟩,
  ⟨some 4, .mv (.t 10), none, false, false, [10]⟩])
 (.ret))
def rs_step_pair_tasks : List IRes := [.t 4]
theorem ok_step_pair_tasks : fnOk Try.prog 132 ic_step_pair_tasks rs_step_pair_tasks 11 = true := by kernel_rfl

/-- (tallyman/step.pair).tasks$1 -/
def ic_step_pair_tasks_1 : ICode :=
 .seq (.ops 0 false [⟨some 3, .box (.t 0), none, false, false, [0]⟩,
  ⟨some 4, .mv (.c (.bool false)), none, false, false, [4]⟩])
 (.seq (.ops 1 false [⟨some 10, .fa 0 (.t 1), none, false, false, []⟩,
  ⟨some 11, .ld (some 8) [] (.t 10), none, false, false, [10]⟩,
  ⟨some 12, .fa 0 (.t 3), none, false, false, []⟩,
  ⟨some 13, .fa 0 (.t 12), none, false, false, [12]⟩,
  ⟨some 14, .ld none [] (.t 13), none, false, false, [13]⟩,
  ⟨some 15, .call (.c (.fn 99 [] [])) [.t 11, .t 14], none, false, false, [11, 14]⟩,
  ⟨some 9, .mv (.t 15), none, false, false, [15]⟩,
  ⟨some 16, .ext 0 (.t 9), none, false, false, []⟩,
  ⟨some 17, .ext 1 (.t 9), none, false, false, [9]⟩,
  ⟨some 5, .alloc [.int .i64 0, .int .i64 0, .int .u64 0, .int .u64 0, .int .i64 0, .int .i64 0, .int .i64 0, .int .i64 0, .nils, .int .i64 0, .int .i64 0, .int .i64 0, .int .i64 0, .nils], none, false, false, []⟩,
  ⟨none, .st 14 (.t 5) (.t 16), none, false, false, [16]⟩,
  ⟨some 6, .mv (.t 17), none, false, false, [6, 17]⟩])
 (.seq (.ops 2 false [⟨some 19, .fa 8 (.t 1), none, false, false, [1]⟩,
  ⟨some 20, .ld (some 8) [] (.t 19), none, false, false, [19]⟩,
  ⟨some 21, .fa 0 (.t 3), none, false, false, [3]⟩,
  ⟨some 22, .fa 0 (.t 21), none, false, false, [21]⟩,
  ⟨some 23, .ld none [] (.t 22), none, false, false, [22]⟩,
  ⟨some 24, .call (.c (.fn 99 [] [])) [.t 20, .t 23], none, false, false, [20, 23]⟩,
  ⟨some 18, .mv (.t 24), none, false, false, [24]⟩,
  ⟨some 25, .ext 0 (.t 18), none, false, false, []⟩,
  ⟨some 26, .ext 1 (.t 18), none, false, false, [18]⟩,
  ⟨some 7, .alloc [.int .i64 0, .int .i64 0, .int .u64 0, .int .u64 0, .int .i64 0, .int .i64 0, .int .i64 0, .int .i64 0, .nils, .int .i64 0, .int .i64 0, .int .i64 0, .int .i64 0, .nils], none, false, false, []⟩,
  ⟨none, .st 14 (.t 7) (.t 25), none, false, false, [25]⟩,
  ⟨some 8, .mv (.t 26), none, false, false, [26]⟩])
 (.seq (.ops 3 false [⟨some 27, .ld none [] (.t 2), none, false, false, [2]⟩,
  ⟨some 28, .ld (some 14) [] (.t 5), none, false, false, [5]⟩,
  ⟨some 29, .ld (some 14) [] (.t 7), none, false, false, [7]⟩,
  ⟨some 30, .mv (.t 8), none, false, false, [8]⟩,
  ⟨some 31, .call (.t 27) [.t 28, .t 29, .t 30], none, false, false, [27, 28, 29, 30]⟩,
  ⟨some 32, .not (.t 31), none, false, false, [31]⟩,
  ⟨some 4, .mv (.t 32), none, false, false, [32]⟩])
 (.ret))))
def rs_step_pair_tasks_1 : List IRes := [.t 4]
theorem ok_step_pair_tasks_1 : fnOk Try.prog 190 ic_step_pair_tasks_1 rs_step_pair_tasks_1 33 = true := by kernel_rfl

/-- slices.ContainsFunc(()tallyman/api.Task,tallyman/api.Task) -/
def ic_slices_ContainsFunc_api_Task_api_Task : ICode :=
 .seq (.ops 0 false [⟨some 4, .mv (.c (.bool false)), none, false, false, [4]⟩])
 (.seq (.ops 1 false [⟨some 5, .mv (.t 0), none, false, false, [0]⟩,
  ⟨some 6, .mv (.t 1), none, false, false, [1]⟩,
  ⟨some 7, .call (.c (.fn 199 [] [])) [.t 5, .t 6], none, false, false, [5, 6]⟩,
  ⟨some 8, .bin .geq (.t 7) (.c (.int .i64 0)), none, false, false, [7]⟩,
  ⟨some 4, .mv (.t 8), none, false, false, [8]⟩])
 (.ret))
def rs_slices_ContainsFunc_api_Task_api_Task : List IRes := [.t 4]
theorem ok_slices_ContainsFunc_api_Task_api_Task : fnOk Try.prog 189 ic_slices_ContainsFunc_api_Task_api_Task rs_slices_ContainsFunc_api_Task_api_Task 9 = true := by kernel_rfl

/-- tallyman/step.Breaks -/
def ic_step_Breaks : ICode :=
 .seq (.ops 0 false [⟨some 2, .box (.t 0), none, false, false, [0]⟩,
  ⟨some 3, .box (.t 1), none, false, false, [1]⟩,
  ⟨some 4, .mv (.c (.nils)), none, false, false, [4]⟩])
 (.back [6, 7, 8] (.seq (.ops 1 false [⟨some 9, .ld (some 8) [] (.t 2), none, false, false, [2]⟩,
   ⟨some 10, .ld (some 8) [] (.t 3), none, false, false, [3]⟩,
   ⟨some 11, .build [.int .i64 0, .int .i64 0, .int .i64 0, .nils, .nils, .nils, .nils, .nils, .int .i64 0, .int .i64 0, .int .i64 0, .nils, .nils, .nils, .nils, .nils] [(0, 8, .t 9), (8, 8, .t 10)], none, false, false, [9, 10]⟩,
   ⟨some 5, .alloc [.int .i64 0, .int .i64 0, .int .i64 0, .nils, .nils, .nils, .nils, .nils, .int .i64 0, .int .i64 0, .int .i64 0, .nils, .nils, .nils, .nils, .nils], none, false, false, []⟩,
   ⟨none, .st 16 (.t 5) (.t 11), none, false, false, [11]⟩])
 (.seq (.ops 2 false [⟨some 12, .mkfn 66 [] [.t 5], none, false, false, []⟩,
   ⟨some 13, .mkfn 68 [] [.t 5], none, false, false, []⟩,
   ⟨some 14, .mkfn 70 [] [.t 5], none, false, false, []⟩,
   ⟨some 15, .mkfn 72 [] [.t 5], none, false, false, []⟩,
   ⟨some 16, .mkfn 74 [] [.t 5], none, false, false, [5]⟩,
   ⟨some 17, .rowView 1 [.t 12, .t 13, .t 14, .t 15, .t 16], none, false, false, [12, 13, 14, 15, 16]⟩,
   ⟨some 6, .mv (.t 17), none, false, false, [17]⟩])
 (.seq (.ops 3 false [⟨some 7, .mv (.c (.nils)), none, false, false, []⟩])
 (.seq (.ops 4 false [⟨some 8, .mv (.c (.int .i64 0)), none, false, false, []⟩])
 (.label 0))))) 0
  (.seq (.seq (.ops 5 false [⟨some 18, .mv (.t 8), none, false, false, []⟩,
   ⟨some 19, .mv (.t 6), none, false, false, []⟩,
   ⟨some 20, .len (.t 19), none, false, false, [19]⟩,
   ⟨some 21, .bin .eql (.t 18) (.t 20), none, false, false, [18, 20]⟩])
  (.cond (.t 21)
   (.seq (.ops 6 false [⟨some 22, .mv (.t 7), none, false, false, [7]⟩,
    ⟨some 4, .mv (.t 22), none, false, false, [22]⟩])
   (.ret))
   (.skip)))
  (.seq (.seq (.ops 7 false [⟨some 23, .mv (.t 6), none, false, false, []⟩,
   ⟨some 24, .mv (.t 8), none, false, false, []⟩,
   ⟨some 25, .ia 1 [.val .nilFunc] (.t 23) (.t 24), none, false, false, [23, 24]⟩,
   ⟨some 26, .ld none [.val .nilFunc] (.t 25), none, false, false, [25]⟩,
   ⟨some 27, .call (.t 26) [], none, false, false, [26]⟩,
   ⟨some 28, .not (.t 27), none, false, false, [27]⟩])
  (.cond (.t 28)
   (.ops 8 false [⟨some 29, .mv (.t 7), none, false, false, [7]⟩,
    ⟨some 30, .mv (.t 8), none, false, false, []⟩,
    ⟨some 31, .bin .add (.t 30) (.c (.int .i64 1)), none, false, false, [30]⟩,
    ⟨some 32, .rowView 1 [.t 31], none, false, false, [31]⟩,
    ⟨some 33, .app 1 (.t 29) (.t 32), none, false, false, [29, 32]⟩,
    ⟨some 7, .mv (.t 33), none, false, false, [33]⟩])
   (.skip)))
  (.seq (.ops 9 false [⟨some 34, .mv (.t 8), none, false, false, [8]⟩,
   ⟨some 35, .bin .add (.t 34) (.c (.int .i64 1)), none, false, false, [34]⟩,
   ⟨some 8, .mv (.t 35), none, false, false, [35]⟩])
  (.goto 0)))))
def rs_step_Breaks : List IRes := [.t 4]
theorem ok_step_Breaks : fnOk Try.prog 14 ic_step_Breaks rs_step_Breaks 36 = true := by kernel_rfl

/-- tallyman/step.Breaks$1 -/
def ic_step_Breaks_1 : ICode :=
 .seq (.ops 0 false [⟨some 1, .mv (.c (.bool false)), none, false, false, [1]⟩])
 (.seq (.ops 1 false [⟨some 2, .ld (some 16) [] (.t 0), none, false, false, [0]⟩,
  ⟨some 3, .call (.c (.fn 67 [] [])) [.t 2], none, false, false, [2]⟩,
  ⟨some 1, .mv (.t 3), none, false, false, [3]⟩])
 (.ret))
def rs_step_Breaks_1 : List IRes := [.t 1]
theorem ok_step_Breaks_1 : fnOk Try.prog 66 ic_step_Breaks_1 rs_step_Breaks_1 4 = true := by kernel_rfl

/-- tallyman/step.Breaks$2 -/
def ic_step_Breaks_2 : ICode :=
 .seq (.ops 0 false [⟨some 1, .mv (.c (.bool false)), none, false, false, [1]⟩])
 (.seq (.ops 1 false [⟨some 2, .ld (some 16) [] (.t 0), none, false, false, [0]⟩,
  ⟨some 3, .call (.c (.fn 69 [] [])) [.t 2], none, false, false, [2]⟩,
  ⟨some 1, .mv (.t 3), none, false, false, [3]⟩])
 (.ret))
def rs_step_Breaks_2 : List IRes := [.t 1]
theorem ok_step_Breaks_2 : fnOk Try.prog 68 ic_step_Breaks_2 rs_step_Breaks_2 4 = true := by kernel_rfl

/-- tallyman/step.Breaks$3 -/
def ic_step_Breaks_3 : ICode :=
 .seq (.ops 0 false [⟨some 1, .mv (.c (.bool false)), none, false, false, [1]⟩])
 (.seq (.ops 1 false [⟨some 2, .ld (some 16) [] (.t 0), none, false, false, [0]⟩,
  ⟨some 3, .call (.c (.fn 71 [] [])) [.t 2], none, false, false, [2]⟩,
  ⟨some 1, .mv (.t 3), none, false, false, [3]⟩])
 (.ret))
def rs_step_Breaks_3 : List IRes := [.t 1]
theorem ok_step_Breaks_3 : fnOk Try.prog 70 ic_step_Breaks_3 rs_step_Breaks_3 4 = true := by kernel_rfl

/-- tallyman/step.Breaks$4 -/
def ic_step_Breaks_4 : ICode :=
 .seq (.ops 0 false [⟨some 1, .mv (.c (.bool false)), none, false, false, [1]⟩])
 (.seq (.ops 1 false [⟨some 2, .ld (some 16) [] (.t 0), none, false, false, [0]⟩,
  ⟨some 3, .call (.c (.fn 73 [] [])) [.t 2], none, false, false, [2]⟩,
  ⟨some 1, .mv (.t 3), none, false, false, [3]⟩])
 (.ret))
def rs_step_Breaks_4 : List IRes := [.t 1]
theorem ok_step_Breaks_4 : fnOk Try.prog 72 ic_step_Breaks_4 rs_step_Breaks_4 4 = true := by kernel_rfl

/-- tallyman/step.Breaks$5 -/
def ic_step_Breaks_5 : ICode :=
 .seq (.ops 0 false [⟨some 1, .mv (.c (.bool false)), none, false, false, [1]⟩])
 (.seq (.ops 1 false [⟨some 2, .ld (some 16) [] (.t 0), none, false, false, [0]⟩,
  ⟨some 3, .call (.c (.fn 75 [] [])) [.t 2], none, false, false, [2]⟩,
  ⟨some 1, .mv (.t 3), none, false, false, [3]⟩])
 (.ret))
def rs_step_Breaks_5 : List IRes := [.t 1]
theorem ok_step_Breaks_5 : fnOk Try.prog 74 ic_step_Breaks_5 rs_step_Breaks_5 4 = true := by kernel_rfl

/-- tallyman/step.May -/
def ic_step_May : ICode :=
 .seq (.ops 0 false [⟨some 2, .box (.t 0), none, false, false, [0]⟩,
  ⟨some 3, .box (.t 1), none, false, false, [1]⟩,
  ⟨some 4, .mv (.c (.bool false)), none, false, false, [4]⟩])
 (.seq (.ops 1 false [⟨some 5, .ld (some 8) [] (.t 2), none, false, false, [2]⟩,
  ⟨some 6, .ld (some 8) [] (.t 3), none, false, false, [3]⟩,
  ⟨some 7, .call (.c (.fn 14 [] [])) [.t 5, .t 6], none, false, false, [5, 6]⟩,
  ⟨some 8, .len (.t 7), none, false, false, [7]⟩,
  ⟨some 9, .bin .eql (.t 8) (.c (.int .i64 0)), none, false, false, [8]⟩,
  ⟨some 4, .mv (.t 9), none, false, false, [9]⟩])
 (.ret))
def rs_step_May : List IRes := [.t 4]
theorem ok_step_May : fnOk Try.prog 15 ic_step_May rs_step_May 10 = true := by kernel_rfl

/-- tallyman/step.hands -/
def ic_step_hands : ICode :=
 .seq (.ops 0 false [⟨some 4, .mv (.c (.bool false)), none, false, false, [4]⟩])
 (.seq (.ops 1 false [⟨some 13, .mkmap, none, false, false, []⟩,
  ⟨some 5, .mv (.t 13), none, false, false, [13]⟩])
 (.seq (.seq (.ops 2 false [⟨some 14, .mv (.t 1), none, false, false, []⟩,
  ⟨some 15, .len (.t 14), none, false, false, [14]⟩,
  ⟨some 16, .mv (.c (.int .i64 0)), none, false, false, []⟩])
 (.block 0 (.loop [0, 1, 5, 15, 16] (.seq (.ops 3 false [⟨some 17, .bin .lss (.t 16) (.t 15), none, false, false, []⟩])
   (.seq (.cond (.t 17)
    (.skip)
    (.exit 0))
   (.seq (.block 1 (.seq (.ops 4 false [⟨some 18, .mv (.t 16), none, false, false, []⟩,
     ⟨some 6, .mv (.t 18), none, false, false, [18]⟩])
    (.seq (.ops 5 false [⟨some 19, .mv (.t 1), none, false, false, []⟩,
     ⟨some 20, .mv (.t 1), none, false, false, []⟩,
     ⟨some 21, .len (.t 20), none, false, false, [20]⟩,
     ⟨some 22, .bin .sub (.t 21) (.c (.int .i64 1)), none, false, false, [21]⟩,
     ⟨some 23, .mv (.t 6), none, false, false, [6]⟩,
     ⟨some 24, .bin .sub (.t 22) (.t 23), none, false, false, [22, 23]⟩,
     ⟨some 25, .ia 3 [.int .i64 0, .int .u64 0, .bool false] (.t 19) (.t 24), none, false, false, [19, 24]⟩,
     ⟨some 26, .ld (some 3) [.int .i64 0, .int .u64 0, .bool false] (.t 25), none, false, false, [25]⟩,
     ⟨some 7, .alloc [.int .i64 0, .int .u64 0, .bool false], none, false, false, []⟩,
     ⟨none, .st 3 (.t 7) (.t 26), none, false, false, [26]⟩])
    (.ops 6 false [⟨some 27, .mv (.t 5), none, false, false, []⟩,
     ⟨some 28, .fa 0 (.t 7), none, false, false, []⟩,
     ⟨some 29, .ld none [] (.t 28), none, false, false, [28]⟩,
     ⟨some 30, .fa 1 (.t 7), none, false, false, [7]⟩,
     ⟨some 31, .ld none [] (.t 30), none, false, false, [30]⟩,
     ⟨none, .mapup (.t 27) (.t 29) (.t 31), none, false, false, [27, 29, 31]⟩]))))
   (.ops 7 false [⟨some 32, .bin .add (.t 16) (.c (.int .i64 1)), none, false, false, [16]⟩,
    ⟨some 16, .mv (.t 32), none, false, false, [32]⟩])))))))
 (.seq (.ops 8 false [⟨some 33, .mkmap, none, false, false, []⟩,
  ⟨some 8, .mv (.t 33), none, false, false, [33]⟩])
 (.seq (.seq (.ops 9 false [⟨some 34, .mv (.t 0), none, false, false, [0]⟩,
  ⟨some 35, .len (.t 34), none, false, false, []⟩,
  ⟨some 36, .mv (.c (.int .i64 0)), none, false, false, []⟩])
 (.block 2 (.loop [5, 8, 34, 35, 36] (.seq (.ops 10 false [⟨some 37, .bin .lss (.t 36) (.t 35), none, false, false, []⟩])
   (.seq (.cond (.t 37)
    (.skip)
    (.exit 2))
   (.seq (.block 3 (.seq (.ops 11 false [⟨some 38, .ia 3 [.int .i64 0, .int .u64 0, .bool false] (.t 34) (.t 36), none, false, false, []⟩,
     ⟨some 39, .ld (some 3) [.int .i64 0, .int .u64 0, .bool false] (.t 38), none, false, false, [38]⟩,
     ⟨some 10, .alloc [.int .i64 0, .int .u64 0, .bool false], none, false, false, []⟩,
     ⟨none, .st 3 (.t 10) (.t 39), none, false, false, [39]⟩])
    (.seq (.seq (.ops 12 false [⟨some 40, .mv (.t 8), none, false, false, []⟩,
     ⟨some 41, .fa 0 (.t 10), none, false, false, []⟩,
     ⟨some 42, .ld none [] (.t 41), none, false, false, [41]⟩,
     ⟨some 43, .look (.int .i64 0) false (.t 40) (.t 42), none, false, false, []⟩,
     ⟨some 44, .bin .add (.t 43) (.c (.int .i64 1)), none, false, false, [43]⟩,
     ⟨none, .mapup (.t 40) (.t 42) (.t 44), none, false, false, [40, 42, 44]⟩])
    (.seq (.ops 13 false [⟨some 45, .mv (.t 8), none, false, false, []⟩,
     ⟨some 46, .fa 0 (.t 10), none, false, false, []⟩,
     ⟨some 47, .ld none [] (.t 46), none, false, false, [46]⟩,
     ⟨some 48, .look (.int .i64 0) false (.t 45) (.t 47), none, false, false, [45, 47]⟩,
     ⟨some 49, .bin .gtr (.t 48) (.c (.int .i64 1)), none, false, false, [48]⟩])
    (.cond (.t 49)
     (.exit 3)
     (.skip))))
    (.seq (.ops 14 false [⟨some 51, .mv (.t 5), none, false, false, []⟩,
     ⟨some 52, .fa 0 (.t 10), none, false, false, []⟩,
     ⟨some 53, .ld none [] (.t 52), none, false, false, [52]⟩,
     ⟨some 54, .look (.int .u64 0) true (.t 51) (.t 53), none, false, false, [51, 53]⟩,
     ⟨some 50, .mv (.t 54), none, false, false, [54]⟩,
     ⟨some 55, .ext 0 (.t 50), none, false, false, []⟩,
     ⟨some 56, .ext 1 (.t 50), none, false, false, [50]⟩,
     ⟨some 11, .mv (.t 55), none, false, false, [55]⟩,
     ⟨some 12, .mv (.t 56), none, false, false, [56]⟩])
    (.seq (.ops 15 false [⟨some 57, .mv (.t 12), none, false, false, [12]⟩,
     ⟨some 58, .not (.t 57), none, false, false, [57]⟩,
     ⟨some 59, .mv (.t 58), none, false, false, [58]⟩,
     ⟨some 60, .mv (.t 11), (some (59, false)), true, false, [11]⟩,
     ⟨some 61, .fa 1 (.t 10), (some (59, false)), true, false, [10]⟩,
     ⟨some 62, .ld none [] (.o 61), (some (59, false)), true, false, [61]⟩,
     ⟨some 63, .bin .neq (.o 60) (.o 62), (some (59, false)), true, false, [60, 62]⟩,
     ⟨some 64, .pick (.t 59) (.c (.bool true)) (.t 63), none, false, false, [59, 63]⟩])
    (.cond (.t 64)
     (.seq (.ops 16 false [⟨some 4, .mv (.c (.bool false)), none, false, false, []⟩])
     (.ret))
     (.skip)))))))
   (.ops 17 false [⟨some 65, .bin .add (.t 36) (.c (.int .i64 1)), none, false, false, [36]⟩,
    ⟨some 36, .mv (.t 65), none, false, false, [65]⟩])))))))
 (.seq (.ops 18 false [⟨some 4, .mv (.c (.bool true)), none, false, false, []⟩])
 (.ret))))))
def rs_step_hands : List IRes := [.t 4]
theorem ok_step_hands : fnOk Try.prog 136 ic_step_hands rs_step_hands 66 = true := by kernel_rfl

/-- tallyman/step.kept -/
def ic_step_kept : ICode :=
 .seq (.ops 0 false [⟨some 2, .box (.t 0), none, false, false, [0]⟩,
  ⟨some 3, .box (.t 1), none, false, false, [1]⟩,
  ⟨some 4, .mv (.c (.bool false)), none, false, false, [4]⟩])
 (.seq (.ops 1 false [⟨some 6, .fa 1 (.t 2), none, false, false, []⟩,
  ⟨some 7, .ld none [] (.t 6), none, false, false, [6]⟩,
  ⟨some 8, .fa 2 (.t 2), none, false, false, []⟩,
  ⟨some 9, .ld none [] (.t 8), none, false, false, [8]⟩,
  ⟨some 10, .fa 3 (.t 2), none, false, false, []⟩,
  ⟨some 11, .ld none [] (.t 10), none, false, false, [10]⟩,
  ⟨some 12, .build [.int .i64 0, .int .i64 0, .int .i64 0] [(0, 1, .t 7), (1, 1, .t 9), (2, 1, .t 11)], none, false, false, [7, 9, 11]⟩,
  ⟨some 13, .fa 1 (.t 3), none, false, false, []⟩,
  ⟨some 14, .ld none [] (.t 13), none, false, false, [13]⟩,
  ⟨some 15, .fa 2 (.t 3), none, false, false, []⟩,
  ⟨some 16, .ld none [] (.t 15), none, false, false, [15]⟩,
  ⟨some 17, .fa 3 (.t 3), none, false, false, []⟩,
  ⟨some 18, .ld none [] (.t 17), none, false, false, [17]⟩,
  ⟨some 19, .build [.int .i64 0, .int .i64 0, .int .i64 0] [(0, 1, .t 14), (1, 1, .t 16), (2, 1, .t 18)], none, false, false, [14, 16, 18]⟩,
  ⟨some 20, .eqc false [false, false, false] (.t 12) (.t 19), none, false, false, [12, 19]⟩,
  ⟨some 21, .mv (.t 20), none, false, false, [20]⟩,
  ⟨some 22, .fa 6 (.t 2), (some (21, true)), true, false, []⟩,
  ⟨some 23, .ld none [] (.o 22), (some (21, true)), true, false, [22]⟩,
  ⟨some 24, .fa 6 (.t 3), (some (21, true)), true, false, []⟩,
  ⟨some 25, .ld none [] (.o 24), (some (21, true)), true, false, [24]⟩,
  ⟨some 26, .call (.c (.fn 81 [] [])) [.o 23, .o 25], (some (21, true)), true, false, [23, 25]⟩,
  ⟨some 27, .pick (.t 21) (.t 26) (.c (.bool false)), none, false, false, [21, 26]⟩,
  ⟨some 5, .mv (.t 27), none, false, false, [27]⟩])
 (.seq (.ops 2 false [⟨some 28, .mv (.t 5), none, false, false, [5]⟩,
  ⟨some 29, .mv (.t 28), none, false, false, [28]⟩,
  ⟨some 30, .fa 5 (.t 2), (some (29, true)), true, false, []⟩,
  ⟨some 31, .ld none [] (.o 30), (some (29, true)), true, false, [30]⟩,
  ⟨some 32, .fa 5 (.t 3), (some (29, true)), true, false, []⟩,
  ⟨some 33, .ld none [] (.o 32), (some (29, true)), true, false, [32]⟩,
  ⟨some 34, .bin .leq (.o 31) (.o 33), (some (29, true)), true, false, [31, 33]⟩,
  ⟨some 35, .pick (.t 29) (.t 34) (.c (.bool false)), none, false, false, [29, 34]⟩,
  ⟨some 36, .mv (.t 35), none, false, false, [35]⟩,
  ⟨some 37, .fa 4 (.t 2), (some (36, true)), true, false, []⟩,
  ⟨some 38, .ld none [] (.o 37), (some (36, true)), true, false, [37]⟩,
  ⟨some 39, .bin .lss (.o 38) (.c (.int .i64 0)), (some (36, true)), true, false, [38]⟩,
  ⟨some 40, .mv (.o 39), (some (36, true)), true, false, [39]⟩,
  ⟨some 41, .fa 4 (.t 2), (some (40, false)), true, false, [2]⟩,
  ⟨some 42, .ld none [] (.o 41), (some (40, false)), true, false, [41]⟩,
  ⟨some 43, .fa 4 (.t 3), (some (40, false)), true, false, [3]⟩,
  ⟨some 44, .ld none [] (.o 43), (some (40, false)), true, false, [43]⟩,
  ⟨some 45, .bin .eql (.o 42) (.o 44), (some (40, false)), true, false, [42, 44]⟩,
  ⟨some 46, .pick (.o 40) (.c (.bool true)) (.t 45), (some (36, true)), true, false, [40, 45]⟩,
  ⟨some 47, .pick (.t 36) (.t 46) (.c (.bool false)), none, false, false, [36, 46]⟩,
  ⟨some 4, .mv (.t 47), none, false, false, [47]⟩])
 (.ret)))
def rs_step_kept : List IRes := [.t 4]
theorem ok_step_kept : fnOk Try.prog 138 ic_step_kept rs_step_kept 48 = true := by kernel_rfl

/-- tallyman/tallymanref24.Ended -/
def ic_r24_Ended : ICode :=
 .seq (.ops 0 false [⟨some 2, .mv (.c (.bool false)), none, false, false, [2]⟩])
 (.seq (.ops 1 false [⟨some 3, .mv (.t 0), none, false, false, []⟩,
  ⟨some 4, .bin .eql (.t 3) (.c (.int .i64 4)), none, false, false, [3]⟩,
  ⟨some 5, .mv (.t 4), none, false, false, [4]⟩,
  ⟨some 6, .mv (.t 0), (some (5, false)), true, false, []⟩,
  ⟨some 7, .bin .eql (.o 6) (.c (.int .i64 5)), (some (5, false)), true, false, [6]⟩,
  ⟨some 8, .pick (.t 5) (.c (.bool true)) (.t 7), none, false, false, [5, 7]⟩,
  ⟨some 9, .mv (.t 8), none, false, false, [8]⟩,
  ⟨some 10, .mv (.t 0), (some (9, false)), true, false, [0]⟩,
  ⟨some 11, .bin .eql (.o 10) (.c (.int .i64 6)), (some (9, false)), true, false, [10]⟩,
  ⟨some 12, .pick (.t 9) (.c (.bool true)) (.t 11), none, false, false, [9, 11]⟩,
  ⟨some 2, .mv (.t 12), none, false, false, [12]⟩])
 (.ret))
def rs_r24_Ended : List IRes := [.t 2]
theorem ok_r24_Ended : fnOk Try.prog 128 ic_r24_Ended rs_r24_Ended 13 = true := by kernel_rfl

/-- tallyman/tallymanref34.Breaks -/
def ic_r34_Breaks : ICode :=
 .seq (.ops 0 false [⟨some 2, .box (.t 0), none, false, false, [0]⟩,
  ⟨some 3, .box (.t 1), none, false, false, [1]⟩,
  ⟨some 4, .mv (.c (.nils)), none, false, false, [4]⟩])
 (.seq (.ops 1 true [⟨some 8, .fa 0 (.t 3), none, false, false, []⟩,
  ⟨some 9, .ld none [] (.t 8), none, false, false, [8]⟩,
  ⟨some 10, .fa 0 (.t 2), none, false, false, []⟩,
  ⟨some 11, .ld none [] (.t 10), none, false, false, [10]⟩,
  ⟨some 12, .bin .geq (.t 9) (.t 11), none, false, false, [9, 11]⟩,
  ⟨some 13, .mv (.t 12), none, false, false, [12]⟩,
  ⟨some 14, .fa 1 (.t 3), (some (13, true)), true, false, []⟩,
  ⟨some 15, .ld none [] (.o 14), (some (13, true)), true, false, [14]⟩,
  ⟨some 16, .fa 1 (.t 2), (some (13, true)), true, false, []⟩,
  ⟨some 17, .ld none [] (.o 16), (some (13, true)), true, false, [16]⟩,
  ⟨some 18, .bin .geq (.o 15) (.o 17), (some (13, true)), true, false, [15, 17]⟩,
  ⟨some 19, .pick (.t 13) (.t 18) (.c (.bool false)), none, false, false, [13, 18]⟩,
  ⟨some 20, .mv (.t 19), none, false, false, [19]⟩,
  ⟨some 21, .fa 2 (.t 3), (some (20, true)), true, false, []⟩,
  ⟨some 22, .ld none [] (.o 21), (some (20, true)), true, false, [21]⟩,
  ⟨some 23, .fa 2 (.t 2), (some (20, true)), true, false, []⟩,
  ⟨some 24, .ld none [] (.o 23), (some (20, true)), true, false, [23]⟩,
  ⟨some 25, .bin .geq (.o 22) (.o 24), (some (20, true)), true, false, [22, 24]⟩,
  ⟨some 26, .pick (.t 20) (.t 25) (.c (.bool false)), none, false, false, [20, 25]⟩,
  ⟨some 27, .ld (some 8) [] (.t 2), none, false, false, []⟩,
  ⟨some 28, .ld (some 8) [] (.t 3), none, false, false, []⟩,
  ⟨some 29, .call (.c (.fn 62 [] [])) [.t 27, .t 28], none, false, false, [27, 28]⟩,
  ⟨some 30, .ld (some 8) [] (.t 2), none, false, false, []⟩,
  ⟨some 31, .ld (some 8) [] (.t 3), none, false, false, []⟩,
  ⟨some 32, .call (.c (.fn 63 [] [])) [.t 30, .t 31], none, false, false, [30, 31]⟩,
  ⟨some 33, .fa 4 (.t 2), none, false, false, []⟩,
  ⟨some 34, .ld none [] (.t 33), none, false, false, [33]⟩,
  ⟨some 35, .fa 4 (.t 3), none, false, false, []⟩,
  ⟨some 36, .ld none [] (.t 35), none, false, false, [35]⟩,
  ⟨some 37, .call (.c (.fn 64 [] [])) [.t 34, .t 36], none, false, false, [34, 36]⟩,
  ⟨some 38, .mv (.t 37), none, false, false, [37]⟩,
  ⟨some 39, .fa 5 (.t 2), (some (38, true)), true, false, []⟩,
  ⟨some 40, .ld none [] (.o 39), (some (38, true)), true, false, [39]⟩,
  ⟨some 41, .fa 5 (.t 3), (some (38, true)), true, false, []⟩,
  ⟨some 42, .ld none [] (.o 41), (some (38, true)), true, false, [41]⟩,
  ⟨some 43, .call (.c (.fn 64 [] [])) [.o 40, .o 42], (some (38, true)), true, false, [40, 42]⟩,
  ⟨some 44, .pick (.t 38) (.t 43) (.c (.bool false)), none, false, false, [38, 43]⟩,
  ⟨some 45, .ld (some 8) [] (.t 2), none, false, false, [2]⟩,
  ⟨some 46, .ld (some 8) [] (.t 3), none, false, false, [3]⟩,
  ⟨some 47, .call (.c (.fn 65 [] [])) [.t 45, .t 46], none, false, false, [45, 46]⟩,
  ⟨some 48, .rowView 1 [.t 26, .t 29, .t 32, .t 44, .t 47], none, false, false, [26, 29, 32, 44, 47]⟩,
  ⟨some 5, .mv (.t 48), none, false, false, [48]⟩])
 (.seq (.ops 2 false [⟨some 6, .mv (.c (.nils)), none, false, false, []⟩])
 (.seq (.seq (.ops 3 false [⟨some 7, .mv (.c (.int .i64 0)), none, false, false, []⟩])
 (.block 0 (.loop [5, 6, 7] (.seq (.seq (.ops 4 false [⟨some 49, .mv (.t 7), none, false, false, []⟩,
    ⟨some 50, .mv (.t 5), none, false, false, []⟩,
    ⟨some 51, .len (.t 50), none, false, false, [50]⟩,
    ⟨some 52, .bin .lss (.t 49) (.t 51), none, false, false, [49, 51]⟩])
   (.cond (.t 52)
    (.skip)
    (.exit 0)))
   (.seq (.block 1 (.seq (.ops 6 false [⟨some 55, .mv (.t 5), none, false, false, []⟩,
     ⟨some 56, .mv (.t 7), none, false, false, []⟩,
     ⟨some 57, .ia 1 [.bool false] (.t 55) (.t 56), none, false, false, [55, 56]⟩,
     ⟨some 58, .ld none [.bool false] (.t 57), none, false, false, [57]⟩,
     ⟨some 59, .not (.t 58), none, false, false, [58]⟩])
    (.cond (.t 59)
     (.ops 7 false [⟨some 60, .mv (.t 6), none, false, false, [6]⟩,
      ⟨some 61, .mv (.t 7), none, false, false, []⟩,
      ⟨some 62, .bin .add (.t 61) (.c (.int .i64 1)), none, false, false, [61]⟩,
      ⟨some 63, .rowView 1 [.t 62], none, false, false, [62]⟩,
      ⟨some 64, .app 1 (.t 60) (.t 63), none, false, false, [60, 63]⟩,
      ⟨some 6, .mv (.t 64), none, false, false, [64]⟩])
     (.skip))))
   (.ops 5 false [⟨some 53, .mv (.t 7), none, false, false, [7]⟩,
    ⟨some 54, .bin .add (.t 53) (.c (.int .i64 1)), none, false, false, [53]⟩,
    ⟨some 7, .mv (.t 54), none, false, false, [54]⟩]))))))
 (.seq (.ops 8 false [⟨some 65, .mv (.t 6), none, false, false, [6]⟩,
  ⟨some 4, .mv (.t 65), none, false, false, [65]⟩])
 (.ret)))))
def rs_r34_Breaks : List IRes := [.t 4]
theorem ok_r34_Breaks : fnOk Try.prog 12 ic_r34_Breaks rs_r34_Breaks 66 = true := by kernel_rfl

/-- tallyman/tallymanref34.two -/
def ic_r34_two : ICode :=
 .seq (.ops 0 false [⟨some 2, .box (.t 0), none, false, false, [0]⟩,
  ⟨some 3, .box (.t 1), none, false, false, [1]⟩,
  ⟨some 4, .mv (.c (.bool false)), none, false, false, [4]⟩])
 (.seq (.seq (.ops 1 false [⟨some 5, .mv (.c (.int .i64 0)), none, false, false, []⟩])
 (.block 0 (.loop [2, 3, 5] (.seq (.seq (.ops 2 false [⟨some 10, .mv (.t 5), none, false, false, []⟩,
    ⟨some 11, .fa 3 (.t 2), none, false, false, []⟩,
    ⟨some 12, .ld none [] (.t 11), none, false, false, [11]⟩,
    ⟨some 13, .len (.t 12), none, false, false, [12]⟩,
    ⟨some 14, .bin .lss (.t 10) (.t 13), none, false, false, [10, 13]⟩])
   (.cond (.t 14)
    (.skip)
    (.exit 0)))
   (.seq (.block 1 (.seq (.ops 4 true [⟨some 18, .ld (some 8) [] (.t 2), none, false, true, []⟩,
     ⟨some 19, .fa 3 (.t 2), none, false, true, []⟩,
     ⟨some 20, .ld none [] (.t 19), none, false, true, [19]⟩,
     ⟨some 21, .mv (.t 5), none, false, false, []⟩,
     ⟨some 22, .ia 14 [.int .i64 0, .int .i64 0, .int .u64 0, .int .u64 0, .int .i64 0, .int .i64 0, .int .i64 0, .int .i64 0, .view [], .int .i64 0, .int .i64 0, .int .i64 0, .int .i64 0, .view []] (.t 20) (.t 21), none, false, true, [20, 21]⟩,
     ⟨some 23, .fa 0 (.t 22), none, false, true, [22]⟩,
     ⟨some 24, .fa 0 (.t 23), none, false, true, [23]⟩,
     ⟨some 25, .ld none [.int .i64 0, .int .i64 0, .int .u64 0, .int .u64 0, .int .i64 0, .int .i64 0, .int .i64 0, .int .i64 0, .view [], .int .i64 0, .int .i64 0, .int .i64 0, .int .i64 0, .view []] (.t 24), none, false, true, [24]⟩,
     ⟨some 26, .call (.c (.fn 127 [] [])) [.t 18, .t 25], none, false, true, [18, 25]⟩,
     ⟨some 17, .mv (.t 26), none, false, false, [26]⟩,
     ⟨some 27, .ext 0 (.t 17), none, false, false, []⟩,
     ⟨some 28, .ext 1 (.t 17), none, false, false, [17]⟩,
     ⟨some 6, .alloc [.int .i64 0, .int .i64 0, .int .u64 0, .int .u64 0, .int .i64 0, .int .i64 0, .int .i64 0, .int .i64 0, .nils, .int .i64 0, .int .i64 0, .int .i64 0, .int .i64 0, .nils], none, false, false, []⟩,
     ⟨none, .st 14 (.t 6) (.t 27), none, false, false, [27]⟩,
     ⟨some 7, .mv (.t 28), none, false, false, [7, 28]⟩])
    (.seq (.ops 5 false [⟨some 30, .ld (some 8) [] (.t 3), none, false, false, []⟩,
     ⟨some 31, .fa 0 (.t 6), none, false, false, []⟩,
     ⟨some 32, .fa 0 (.t 31), none, false, false, [31]⟩,
     ⟨some 33, .ld none [] (.t 32), none, false, false, [32]⟩,
     ⟨some 34, .call (.c (.fn 127 [] [])) [.t 30, .t 33], none, false, false, [30, 33]⟩,
     ⟨some 29, .mv (.t 34), none, false, false, [34]⟩,
     ⟨some 35, .ext 0 (.t 29), none, false, false, []⟩,
     ⟨some 36, .ext 1 (.t 29), none, false, false, [29]⟩,
     ⟨some 8, .alloc [.int .i64 0, .int .i64 0, .int .u64 0, .int .u64 0, .int .i64 0, .int .i64 0, .int .i64 0, .int .i64 0, .nils, .int .i64 0, .int .i64 0, .int .i64 0, .int .i64 0, .nils], none, false, false, []⟩,
     ⟨none, .st 14 (.t 8) (.t 35), none, false, false, [35]⟩,
     ⟨some 9, .mv (.t 36), none, false, false, [36]⟩])
    (.seq (.ops 6 false [⟨some 37, .mv (.t 9), none, false, false, [9]⟩,
     ⟨some 38, .not (.t 37), none, false, false, [37]⟩,
     ⟨some 39, .mv (.t 38), none, false, false, [38]⟩,
     ⟨some 40, .fa 0 (.t 6), (some (39, false)), true, false, []⟩,
     ⟨some 41, .ld (some 9) [] (.o 40), (some (39, false)), true, false, [40]⟩,
     ⟨some 42, .fa 0 (.t 8), (some (39, false)), true, false, []⟩,
     ⟨some 43, .ld (some 9) [] (.o 42), (some (39, false)), true, false, [42]⟩,
     ⟨some 44, .call (.c (.fn 23 [] [])) [.o 41, .o 43], (some (39, false)), true, false, [41, 43]⟩,
     ⟨some 45, .not (.o 44), (some (39, false)), true, false, [44]⟩,
     ⟨some 46, .pick (.t 39) (.c (.bool true)) (.t 45), none, false, false, [39, 45]⟩,
     ⟨some 47, .mv (.t 46), none, false, false, [46]⟩,
     ⟨some 48, .fa 9 (.t 6), (some (47, false)), true, false, []⟩,
     ⟨some 49, .ld none [] (.o 48), (some (47, false)), true, false, [48]⟩,
     ⟨some 50, .call (.c (.fn 128 [] [])) [.o 49], (some (47, false)), true, false, [49]⟩,
     ⟨some 51, .mv (.o 50), (some (47, false)), true, false, [50]⟩,
     ⟨some 52, .fa 9 (.t 6), (some (51, true)), true, false, [6]⟩,
     ⟨some 53, .ld none [] (.o 52), (some (51, true)), true, false, [52]⟩,
     ⟨some 54, .fa 9 (.t 8), (some (51, true)), true, false, [8]⟩,
     ⟨some 55, .ld none [] (.o 54), (some (51, true)), true, false, [54]⟩,
     ⟨some 56, .bin .neq (.o 53) (.o 55), (some (51, true)), true, false, [53, 55]⟩,
     ⟨some 57, .pick (.o 51) (.t 56) (.c (.bool false)), (some (47, false)), true, false, [51, 56]⟩,
     ⟨some 58, .pick (.t 47) (.c (.bool true)) (.t 57), none, false, false, [47, 57]⟩])
    (.cond (.t 58)
     (.seq (.ops 7 false [⟨some 4, .mv (.c (.bool false)), none, false, false, []⟩])
     (.ret))
     (.skip))))))
   (.ops 3 false [⟨some 15, .mv (.t 5), none, false, false, [5]⟩,
    ⟨some 16, .bin .add (.t 15) (.c (.int .i64 1)), none, false, false, [15]⟩,
    ⟨some 5, .mv (.t 16), none, false, false, [16]⟩]))))))
 (.seq (.ops 8 false [⟨some 4, .mv (.c (.bool true)), none, false, false, []⟩])
 (.ret)))
def rs_r34_two : List IRes := [.t 4]
theorem ok_r34_two : fnOk Try.prog 62 ic_r34_two rs_r34_two 59 = true := by kernel_rfl

/-- tallyman/tallymanref34.three -/
def ic_r34_three : ICode :=
 .seq (.ops 0 false [⟨some 2, .box (.t 0), none, false, false, [0]⟩,
  ⟨some 3, .box (.t 1), none, false, false, [1]⟩,
  ⟨some 4, .mv (.c (.bool false)), none, false, false, [4]⟩])
 (.seq (.seq (.ops 1 false [⟨some 5, .mv (.c (.int .i64 0)), none, false, false, []⟩])
 (.block 0 (.loop [2, 3, 5] (.seq (.seq (.ops 2 false [⟨some 10, .mv (.t 5), none, false, false, []⟩,
    ⟨some 11, .fa 3 (.t 2), none, false, false, []⟩,
    ⟨some 12, .ld none [] (.t 11), none, false, false, [11]⟩,
    ⟨some 13, .len (.t 12), none, false, false, [12]⟩,
    ⟨some 14, .bin .lss (.t 10) (.t 13), none, false, false, [10, 13]⟩])
   (.cond (.t 14)
    (.skip)
    (.exit 0)))
   (.seq (.block 1 (.seq (.ops 4 true [⟨some 18, .ld (some 8) [] (.t 2), none, false, true, []⟩,
     ⟨some 19, .fa 3 (.t 2), none, false, true, []⟩,
     ⟨some 20, .ld none [] (.t 19), none, false, true, [19]⟩,
     ⟨some 21, .mv (.t 5), none, false, false, []⟩,
     ⟨some 22, .ia 14 [.int .i64 0, .int .i64 0, .int .u64 0, .int .u64 0, .int .i64 0, .int .i64 0, .int .i64 0, .int .i64 0, .view [], .int .i64 0, .int .i64 0, .int .i64 0, .int .i64 0, .view []] (.t 20) (.t 21), none, false, true, [20, 21]⟩,
     ⟨some 23, .fa 0 (.t 22), none, false, true, [22]⟩,
     ⟨some 24, .fa 0 (.t 23), none, false, true, [23]⟩,
     ⟨some 25, .ld none [.int .i64 0, .int .i64 0, .int .u64 0, .int .u64 0, .int .i64 0, .int .i64 0, .int .i64 0, .int .i64 0, .view [], .int .i64 0, .int .i64 0, .int .i64 0, .int .i64 0, .view []] (.t 24), none, false, true, [24]⟩,
     ⟨some 26, .call (.c (.fn 127 [] [])) [.t 18, .t 25], none, false, true, [18, 25]⟩,
     ⟨some 17, .mv (.t 26), none, false, false, [26]⟩,
     ⟨some 27, .ext 0 (.t 17), none, false, false, []⟩,
     ⟨some 28, .ext 1 (.t 17), none, false, false, [17]⟩,
     ⟨some 6, .alloc [.int .i64 0, .int .i64 0, .int .u64 0, .int .u64 0, .int .i64 0, .int .i64 0, .int .i64 0, .int .i64 0, .nils, .int .i64 0, .int .i64 0, .int .i64 0, .int .i64 0, .nils], none, false, false, []⟩,
     ⟨none, .st 14 (.t 6) (.t 27), none, false, false, [27]⟩,
     ⟨some 7, .mv (.t 28), none, false, false, [7, 28]⟩])
    (.seq (.ops 5 false [⟨some 30, .ld (some 8) [] (.t 3), none, false, false, []⟩,
     ⟨some 31, .fa 0 (.t 6), none, false, false, []⟩,
     ⟨some 32, .fa 0 (.t 31), none, false, false, [31]⟩,
     ⟨some 33, .ld none [] (.t 32), none, false, false, [32]⟩,
     ⟨some 34, .call (.c (.fn 127 [] [])) [.t 30, .t 33], none, false, false, [30, 33]⟩,
     ⟨some 29, .mv (.t 34), none, false, false, [34]⟩,
     ⟨some 35, .ext 0 (.t 29), none, false, false, []⟩,
     ⟨some 36, .ext 1 (.t 29), none, false, false, [29]⟩,
     ⟨some 8, .alloc [.int .i64 0, .int .i64 0, .int .u64 0, .int .u64 0, .int .i64 0, .int .i64 0, .int .i64 0, .int .i64 0, .nils, .int .i64 0, .int .i64 0, .int .i64 0, .int .i64 0, .nils], none, false, false, []⟩,
     ⟨none, .st 14 (.t 8) (.t 35), none, false, false, [35]⟩,
     ⟨some 9, .mv (.t 36), none, false, false, [36]⟩])
    (.seq (.ops 6 false [⟨some 37, .mv (.t 9), none, false, false, [9]⟩,
     ⟨some 38, .mv (.t 37), none, false, false, [37]⟩,
     ⟨some 39, .fa 12 (.t 8), (some (38, true)), true, false, []⟩,
     ⟨some 40, .ld none [] (.o 39), (some (38, true)), true, false, [39]⟩,
     ⟨some 41, .fa 12 (.t 6), (some (38, true)), true, false, []⟩,
     ⟨some 42, .ld none [] (.o 41), (some (38, true)), true, false, [41]⟩,
     ⟨some 43, .bin .lss (.o 40) (.o 42), (some (38, true)), true, false, [40, 42]⟩,
     ⟨some 44, .mv (.o 43), (some (38, true)), true, false, [43]⟩,
     ⟨some 45, .fa 13 (.t 6), (some (44, false)), true, false, []⟩,
     ⟨some 46, .ld none [] (.o 45), (some (44, false)), true, false, [45]⟩,
     ⟨some 47, .fa 13 (.t 8), (some (44, false)), true, false, []⟩,
     ⟨some 48, .ld none [] (.o 47), (some (44, false)), true, false, [47]⟩,
     ⟨some 49, .call (.c (.fn 129 [] [])) [.o 46, .o 48], (some (44, false)), true, false, [46, 48]⟩,
     ⟨some 50, .len (.o 49), (some (44, false)), true, false, [49]⟩,
     ⟨some 51, .bin .gtr (.o 50) (.c (.int .i64 0)), (some (44, false)), true, false, [50]⟩,
     ⟨some 52, .pick (.o 44) (.c (.bool true)) (.t 51), (some (38, true)), true, false, [44, 51]⟩,
     ⟨some 53, .mv (.o 52), (some (38, true)), true, false, [52]⟩,
     ⟨some 54, .fa 10 (.t 6), (some (53, false)), true, false, []⟩,
     ⟨some 55, .ld none [] (.o 54), (some (53, false)), true, false, [54]⟩,
     ⟨some 56, .bin .neq (.o 55) (.c (.int .i64 0)), (some (53, false)), true, false, [55]⟩,
     ⟨some 57, .mv (.o 56), (some (53, false)), true, false, [56]⟩,
     ⟨some 58, .fa 10 (.t 6), (some (57, true)), true, false, []⟩,
     ⟨some 59, .ld none [] (.o 58), (some (57, true)), true, false, [58]⟩,
     ⟨some 60, .fa 10 (.t 8), (some (57, true)), true, false, []⟩,
     ⟨some 61, .ld none [] (.o 60), (some (57, true)), true, false, [60]⟩,
     ⟨some 62, .bin .neq (.o 59) (.o 61), (some (57, true)), true, false, [59, 61]⟩,
     ⟨some 63, .mv (.o 62), (some (57, true)), true, false, [62]⟩,
     ⟨some 64, .fa 11 (.t 6), (some (63, false)), true, false, [6]⟩,
     ⟨some 65, .ld none [] (.o 64), (some (63, false)), true, false, [64]⟩,
     ⟨some 66, .fa 11 (.t 8), (some (63, false)), true, false, [8]⟩,
     ⟨some 67, .ld none [] (.o 66), (some (63, false)), true, false, [66]⟩,
     ⟨some 68, .bin .neq (.o 65) (.o 67), (some (63, false)), true, false, [65, 67]⟩,
     ⟨some 69, .pick (.o 63) (.c (.bool true)) (.t 68), (some (57, true)), true, false, [63, 68]⟩,
     ⟨some 70, .pick (.o 57) (.t 69) (.c (.bool false)), (some (53, false)), true, false, [57, 69]⟩,
     ⟨some 71, .pick (.o 53) (.c (.bool true)) (.t 70), (some (38, true)), true, false, [53, 70]⟩,
     ⟨some 72, .pick (.t 38) (.t 71) (.c (.bool false)), none, false, false, [38, 71]⟩])
    (.cond (.t 72)
     (.seq (.ops 7 false [⟨some 4, .mv (.c (.bool false)), none, false, false, []⟩])
     (.ret))
     (.skip))))))
   (.ops 3 false [⟨some 15, .mv (.t 5), none, false, false, [5]⟩,
    ⟨some 16, .bin .add (.t 15) (.c (.int .i64 1)), none, false, false, [15]⟩,
    ⟨some 5, .mv (.t 16), none, false, false, [16]⟩]))))))
 (.seq (.ops 8 false [⟨some 4, .mv (.c (.bool true)), none, false, false, []⟩])
 (.ret)))
def rs_r34_three : List IRes := [.t 4]
theorem ok_r34_three : fnOk Try.prog 63 ic_r34_three rs_r34_three 73 = true := by kernel_rfl

/-- tallyman/tallymanref34.four -/
def ic_r34_four : ICode :=
 .seq (.ops 0 false [⟨some 4, .mv (.c (.bool false)), none, false, false, [4]⟩])
 (.seq (.seq (.ops 1 false [⟨some 5, .mv (.c (.int .i64 0)), none, false, false, []⟩])
 (.block 0 (.loop [0, 1, 5] (.seq (.seq (.ops 2 false [⟨some 10, .mv (.t 5), none, false, false, []⟩,
    ⟨some 11, .mv (.t 0), none, false, false, []⟩,
    ⟨some 12, .len (.t 11), none, false, false, [11]⟩,
    ⟨some 13, .bin .lss (.t 10) (.t 12), none, false, false, [10, 12]⟩])
   (.cond (.t 13)
    (.skip)
    (.exit 0)))
   (.seq (.block 1 (.seq (.ops 4 false [⟨some 17, .mv (.t 0), none, false, false, []⟩,
     ⟨some 18, .mv (.t 0), none, false, false, []⟩,
     ⟨some 19, .mv (.t 5), none, false, false, []⟩,
     ⟨some 20, .ia 3 [.int .i64 0, .int .u64 0, .bool false] (.t 18) (.t 19), none, false, false, [18, 19]⟩,
     ⟨some 21, .fa 0 (.t 20), none, false, false, [20]⟩,
     ⟨some 22, .ld none [.int .i64 0, .int .u64 0, .bool false] (.t 21), none, false, false, [21]⟩,
     ⟨some 23, .call (.c (.fn 130 [] [])) [.t 17, .t 22], none, false, false, [17, 22]⟩,
     ⟨some 16, .mv (.t 23), none, false, false, [23]⟩,
     ⟨some 24, .ext 0 (.t 16), none, false, false, []⟩,
     ⟨some 25, .ext 1 (.t 16), none, false, false, [16]⟩,
     ⟨some 6, .alloc [.int .i64 0, .int .u64 0, .bool false], none, false, false, []⟩,
     ⟨none, .st 3 (.t 6) (.t 24), none, false, false, [24]⟩,
     ⟨some 7, .mv (.t 25), none, false, false, [7, 25]⟩])
    (.seq (.ops 5 false [⟨some 27, .mv (.t 1), none, false, false, []⟩,
     ⟨some 28, .fa 0 (.t 6), none, false, false, []⟩,
     ⟨some 29, .ld none [] (.t 28), none, false, false, [28]⟩,
     ⟨some 30, .call (.c (.fn 130 [] [])) [.t 27, .t 29], none, false, false, [27, 29]⟩,
     ⟨some 26, .mv (.t 30), none, false, false, [30]⟩,
     ⟨some 31, .ext 0 (.t 26), none, false, false, []⟩,
     ⟨some 32, .ext 1 (.t 26), none, false, false, [26]⟩,
     ⟨some 8, .alloc [.int .i64 0, .int .u64 0, .bool false], none, false, false, []⟩,
     ⟨none, .st 3 (.t 8) (.t 31), none, false, false, [31]⟩,
     ⟨some 9, .mv (.t 32), none, false, false, [32]⟩])
    (.seq (.ops 6 false [⟨some 33, .mv (.t 9), none, false, false, [9]⟩,
     ⟨some 34, .not (.t 33), none, false, false, [33]⟩,
     ⟨some 35, .mv (.t 34), none, false, false, [34]⟩,
     ⟨some 36, .fa 1 (.t 6), (some (35, false)), true, false, [6]⟩,
     ⟨some 37, .ld none [] (.o 36), (some (35, false)), true, false, [36]⟩,
     ⟨some 38, .fa 1 (.t 8), (some (35, false)), true, false, [8]⟩,
     ⟨some 39, .ld none [] (.o 38), (some (35, false)), true, false, [38]⟩,
     ⟨some 40, .bin .neq (.o 37) (.o 39), (some (35, false)), true, false, [37, 39]⟩,
     ⟨some 41, .pick (.t 35) (.c (.bool true)) (.t 40), none, false, false, [35, 40]⟩])
    (.cond (.t 41)
     (.seq (.ops 7 false [⟨some 4, .mv (.c (.bool false)), none, false, false, []⟩])
     (.ret))
     (.skip))))))
   (.ops 3 false [⟨some 14, .mv (.t 5), none, false, false, [5]⟩,
    ⟨some 15, .bin .add (.t 14) (.c (.int .i64 1)), none, false, false, [14]⟩,
    ⟨some 5, .mv (.t 15), none, false, false, [15]⟩]))))))
 (.seq (.ops 8 false [⟨some 4, .mv (.c (.bool true)), none, false, false, []⟩])
 (.ret)))
def rs_r34_four : List IRes := [.t 4]
theorem ok_r34_four : fnOk Try.prog 64 ic_r34_four rs_r34_four 42 = true := by kernel_rfl

/-- tallyman/tallymanref34.five -/
def ic_r34_five : ICode :=
 .seq (.ops 0 false [⟨some 2, .box (.t 0), none, false, false, [0]⟩,
  ⟨some 3, .box (.t 1), none, false, false, [1]⟩,
  ⟨some 4, .mv (.c (.bool false)), none, false, false, [4]⟩])
 (.seq (.seq (.ops 1 false [⟨some 5, .mv (.c (.int .i64 0)), none, false, false, []⟩])
 (.block 0 (.loop [2, 3, 5] (.seq (.seq (.ops 2 false [⟨some 13, .mv (.t 5), none, false, false, []⟩,
    ⟨some 14, .fa 6 (.t 2), none, false, false, []⟩,
    ⟨some 15, .ld none [] (.t 14), none, false, false, [14]⟩,
    ⟨some 16, .len (.t 15), none, false, false, [15]⟩,
    ⟨some 17, .bin .lss (.t 13) (.t 16), none, false, false, [13, 16]⟩])
   (.cond (.t 17)
    (.skip)
    (.exit 0)))
   (.seq (.block 1 (.seq (.ops 4 true [⟨some 21, .ld (some 8) [] (.t 2), none, false, true, []⟩,
     ⟨some 22, .fa 6 (.t 2), none, false, true, []⟩,
     ⟨some 23, .ld none [] (.t 22), none, false, true, [22]⟩,
     ⟨some 24, .mv (.t 5), none, false, false, []⟩,
     ⟨some 25, .ia 7 [.int .i64 0, .int .i64 0, .int .i64 0, .int .i64 0, .int .i64 0, .int .i64 0, .view []] (.t 23) (.t 24), none, false, true, [23, 24]⟩,
     ⟨some 26, .fa 0 (.t 25), none, false, true, [25]⟩,
     ⟨some 27, .ld none [.int .i64 0, .int .i64 0, .int .i64 0, .int .i64 0, .int .i64 0, .int .i64 0, .view []] (.t 26), none, false, true, [26]⟩,
     ⟨some 28, .call (.c (.fn 131 [] [])) [.t 21, .t 27], none, false, true, [21, 27]⟩,
     ⟨some 20, .mv (.t 28), none, false, false, [28]⟩,
     ⟨some 29, .ext 0 (.t 20), none, false, false, []⟩,
     ⟨some 30, .ext 1 (.t 20), none, false, false, [20]⟩,
     ⟨some 6, .alloc [.int .i64 0, .int .i64 0, .int .i64 0, .int .i64 0, .int .i64 0, .int .i64 0, .nils], none, false, false, []⟩,
     ⟨none, .st 7 (.t 6) (.t 29), none, false, false, [29]⟩,
     ⟨some 7, .mv (.t 30), none, false, false, [7, 30]⟩])
    (.seq (.ops 5 false [⟨some 32, .ld (some 8) [] (.t 3), none, false, false, []⟩,
     ⟨some 33, .fa 0 (.t 6), none, false, false, []⟩,
     ⟨some 34, .ld none [] (.t 33), none, false, false, [33]⟩,
     ⟨some 35, .call (.c (.fn 131 [] [])) [.t 32, .t 34], none, false, false, [32, 34]⟩,
     ⟨some 31, .mv (.t 35), none, false, false, [35]⟩,
     ⟨some 36, .ext 0 (.t 31), none, false, false, []⟩,
     ⟨some 37, .ext 1 (.t 31), none, false, false, [31]⟩,
     ⟨some 8, .alloc [.int .i64 0, .int .i64 0, .int .i64 0, .int .i64 0, .int .i64 0, .int .i64 0, .nils], none, false, false, []⟩,
     ⟨none, .st 7 (.t 8) (.t 36), none, false, false, [36]⟩,
     ⟨some 9, .mv (.t 37), none, false, false, [37]⟩])
    (.seq (.ops 6 false [⟨some 38, .mv (.t 9), none, false, false, [9]⟩,
     ⟨some 39, .mv (.t 38), none, false, false, [38]⟩,
     ⟨some 40, .fa 1 (.t 6), (some (39, true)), true, false, []⟩,
     ⟨some 41, .ld none [] (.o 40), (some (39, true)), true, false, [40]⟩,
     ⟨some 42, .fa 1 (.t 8), (some (39, true)), true, false, []⟩,
     ⟨some 43, .ld none [] (.o 42), (some (39, true)), true, false, [42]⟩,
     ⟨some 44, .bin .neq (.o 41) (.o 43), (some (39, true)), true, false, [41, 43]⟩,
     ⟨some 45, .mv (.o 44), (some (39, true)), true, false, [44]⟩,
     ⟨some 46, .fa 2 (.t 6), (some (45, false)), true, false, []⟩,
     ⟨some 47, .ld none [] (.o 46), (some (45, false)), true, false, [46]⟩,
     ⟨some 48, .fa 2 (.t 8), (some (45, false)), true, false, []⟩,
     ⟨some 49, .ld none [] (.o 48), (some (45, false)), true, false, [48]⟩,
     ⟨some 50, .bin .neq (.o 47) (.o 49), (some (45, false)), true, false, [47, 49]⟩,
     ⟨some 51, .pick (.o 45) (.c (.bool true)) (.t 50), (some (39, true)), true, false, [45, 50]⟩,
     ⟨some 52, .mv (.o 51), (some (39, true)), true, false, [51]⟩,
     ⟨some 53, .fa 3 (.t 6), (some (52, false)), true, false, []⟩,
     ⟨some 54, .ld none [] (.o 53), (some (52, false)), true, false, [53]⟩,
     ⟨some 55, .fa 3 (.t 8), (some (52, false)), true, false, []⟩,
     ⟨some 56, .ld none [] (.o 55), (some (52, false)), true, false, [55]⟩,
     ⟨some 57, .bin .neq (.o 54) (.o 56), (some (52, false)), true, false, [54, 56]⟩,
     ⟨some 58, .pick (.o 52) (.c (.bool true)) (.t 57), (some (39, true)), true, false, [52, 57]⟩,
     ⟨some 59, .mv (.o 58), (some (39, true)), true, false, [58]⟩,
     ⟨some 60, .fa 6 (.t 6), (some (59, false)), true, false, []⟩,
     ⟨some 61, .ld none [] (.o 60), (some (59, false)), true, false, [60]⟩,
     ⟨some 62, .fa 6 (.t 8), (some (59, false)), true, false, []⟩,
     ⟨some 63, .ld none [] (.o 62), (some (59, false)), true, false, [62]⟩,
     ⟨some 64, .call (.c (.fn 13 [] [])) [.o 61, .o 63], (some (59, false)), true, false, [61, 63]⟩,
     ⟨some 65, .not (.o 64), (some (59, false)), true, false, [64]⟩,
     ⟨some 66, .pick (.o 59) (.c (.bool true)) (.t 65), (some (39, true)), true, false, [59, 65]⟩,
     ⟨some 67, .mv (.o 66), (some (39, true)), true, false, [66]⟩,
     ⟨some 68, .fa 5 (.t 8), (some (67, false)), true, false, []⟩,
     ⟨some 69, .ld none [] (.o 68), (some (67, false)), true, false, [68]⟩,
     ⟨some 70, .fa 5 (.t 6), (some (67, false)), true, false, []⟩,
     ⟨some 71, .ld none [] (.o 70), (some (67, false)), true, false, [70]⟩,
     ⟨some 72, .bin .lss (.o 69) (.o 71), (some (67, false)), true, false, [69, 71]⟩,
     ⟨some 73, .pick (.o 67) (.c (.bool true)) (.t 72), (some (39, true)), true, false, [67, 72]⟩,
     ⟨some 74, .mv (.o 73), (some (39, true)), true, false, [73]⟩,
     ⟨some 75, .fa 4 (.t 6), (some (74, false)), true, false, []⟩,
     ⟨some 76, .ld none [] (.o 75), (some (74, false)), true, false, [75]⟩,
     ⟨some 77, .bin .geq (.o 76) (.c (.int .i64 0)), (some (74, false)), true, false, [76]⟩,
     ⟨some 78, .mv (.o 77), (some (74, false)), true, false, [77]⟩,
     ⟨some 79, .fa 4 (.t 6), (some (78, true)), true, false, [6]⟩,
     ⟨some 80, .ld none [] (.o 79), (some (78, true)), true, false, [79]⟩,
     ⟨some 81, .fa 4 (.t 8), (some (78, true)), true, false, [8]⟩,
     ⟨some 82, .ld none [] (.o 81), (some (78, true)), true, false, [81]⟩,
     ⟨some 83, .bin .neq (.o 80) (.o 82), (some (78, true)), true, false, [80, 82]⟩,
     ⟨some 84, .pick (.o 78) (.t 83) (.c (.bool false)), (some (74, false)), true, false, [78, 83]⟩,
     ⟨some 85, .pick (.o 74) (.c (.bool true)) (.t 84), (some (39, true)), true, false, [74, 84]⟩,
     ⟨some 86, .pick (.t 39) (.t 85) (.c (.bool false)), none, false, false, [39, 85]⟩])
    (.cond (.t 86)
     (.seq (.ops 7 false [⟨some 4, .mv (.c (.bool false)), none, false, false, []⟩])
     (.ret))
     (.skip))))))
   (.ops 3 false [⟨some 18, .mv (.t 5), none, false, false, [5]⟩,
    ⟨some 19, .bin .add (.t 18) (.c (.int .i64 1)), none, false, false, [18]⟩,
    ⟨some 5, .mv (.t 19), none, false, false, [19]⟩]))))))
 (.seq (.seq (.ops 8 false [⟨some 10, .mv (.c (.int .i64 0)), none, false, false, []⟩])
 (.block 2 (.loop [2, 3, 10] (.seq (.seq (.ops 9 false [⟨some 87, .mv (.t 10), none, false, false, []⟩,
    ⟨some 88, .fa 6 (.t 3), none, false, false, []⟩,
    ⟨some 89, .ld none [] (.t 88), none, false, false, [88]⟩,
    ⟨some 90, .len (.t 89), none, false, false, [89]⟩,
    ⟨some 91, .bin .lss (.t 87) (.t 90), none, false, false, [87, 90]⟩])
   (.cond (.t 91)
    (.skip)
    (.exit 2)))
   (.seq (.block 3 (.seq (.ops 11 true [⟨some 95, .ld (some 8) [] (.t 2), none, false, true, []⟩,
     ⟨some 96, .fa 6 (.t 3), none, false, true, []⟩,
     ⟨some 97, .ld none [] (.t 96), none, false, true, [96]⟩,
     ⟨some 98, .mv (.t 10), none, false, false, []⟩,
     ⟨some 99, .ia 7 [.int .i64 0, .int .i64 0, .int .i64 0, .int .i64 0, .int .i64 0, .int .i64 0, .view []] (.t 97) (.t 98), none, false, true, [97, 98]⟩,
     ⟨some 100, .fa 0 (.t 99), none, false, true, [99]⟩,
     ⟨some 101, .ld none [.int .i64 0, .int .i64 0, .int .i64 0, .int .i64 0, .int .i64 0, .int .i64 0, .view []] (.t 100), none, false, true, [100]⟩,
     ⟨some 102, .call (.c (.fn 131 [] [])) [.t 95, .t 101], none, false, true, [95, 101]⟩,
     ⟨some 94, .mv (.t 102), none, false, false, [102]⟩,
     ⟨some 103, .ext 0 (.t 94), none, false, false, []⟩,
     ⟨some 104, .ext 1 (.t 94), none, false, false, [94]⟩,
     ⟨some 11, .alloc [.int .i64 0, .int .i64 0, .int .i64 0, .int .i64 0, .int .i64 0, .int .i64 0, .nils], none, false, false, []⟩,
     ⟨none, .st 7 (.t 11) (.t 103), none, false, false, [11, 103]⟩,
     ⟨some 12, .mv (.t 104), none, false, false, [104]⟩])
    (.seq (.ops 12 true [⟨some 105, .mv (.t 12), none, false, false, [12]⟩,
     ⟨some 106, .not (.t 105), none, false, false, [105]⟩,
     ⟨some 107, .mv (.t 106), none, false, false, [106]⟩,
     ⟨some 108, .fa 6 (.t 3), (some (107, true)), true, false, []⟩,
     ⟨some 109, .ld none [] (.o 108), (some (107, true)), true, false, [108]⟩,
     ⟨some 110, .mv (.t 10), (some (107, true)), true, false, []⟩,
     ⟨some 111, .ia 7 [.int .i64 0, .int .i64 0, .int .i64 0, .int .i64 0, .int .i64 0, .int .i64 0, .view []] (.o 109) (.o 110), (some (107, true)), true, false, [109, 110]⟩,
     ⟨some 112, .fa 0 (.o 111), (some (107, true)), true, false, [111]⟩,
     ⟨some 113, .ld none [.int .i64 0, .int .i64 0, .int .i64 0, .int .i64 0, .int .i64 0, .int .i64 0, .view []] (.o 112), (some (107, true)), true, false, [112]⟩,
     ⟨some 114, .fa 2 (.t 2), (some (107, true)), true, false, []⟩,
     ⟨some 115, .ld none [] (.o 114), (some (107, true)), true, false, [114]⟩,
     ⟨some 116, .bin .leq (.o 113) (.o 115), (some (107, true)), true, false, [113, 115]⟩,
     ⟨some 117, .pick (.t 107) (.t 116) (.c (.bool false)), none, false, false, [107, 116]⟩])
    (.cond (.t 117)
     (.seq (.ops 13 false [⟨some 4, .mv (.c (.bool false)), none, false, false, []⟩])
     (.ret))
     (.skip)))))
   (.ops 10 false [⟨some 92, .mv (.t 10), none, false, false, [10]⟩,
    ⟨some 93, .bin .add (.t 92) (.c (.int .i64 1)), none, false, false, [92]⟩,
    ⟨some 10, .mv (.t 93), none, false, false, [93]⟩]))))))
 (.seq (.ops 14 false [⟨some 4, .mv (.c (.bool true)), none, false, false, []⟩])
 (.ret))))
def rs_r34_five : List IRes := [.t 4]
theorem ok_r34_five : fnOk Try.prog 65 ic_r34_five rs_r34_five 118 = true := by kernel_rfl

/-- tallyman/tallymanlaw34.alive -/
def ic_l34_alive : ICode :=
 .seq (.ops 0 false [⟨some 0, .mv (.c (.bool false)), none, false, false, [0]⟩])
 (.seq (.ops 1 false [⟨some 3, .build [.int .i64 0, .int .i64 0, .int .u64 0, .int .u64 0, .int .i64 0, .int .i64 0, .int .i64 0, .int .i64 0, .nils] [(0, 1, .c (.int .i64 1))], none, false, false, []⟩,
  ⟨some 4, .build [.int .i64 0, .int .i64 0, .int .u64 0, .int .u64 0, .int .i64 0, .int .i64 0, .int .i64 0, .int .i64 0, .nils, .int .i64 0, .int .i64 0, .int .i64 0, .int .i64 0, .nils] [(0, 9, .t 3), (9, 1, .c (.int .i64 4))], none, false, false, [3]⟩,
  ⟨some 5, .rowView 14 [.t 4], none, false, false, [4]⟩,
  ⟨some 6, .build [.int .i64 0, .int .i64 0, .int .i64 0, .nils, .nils, .nils, .nils, .nils] [(3, 1, .t 5)], none, false, false, [5]⟩,
  ⟨some 1, .alloc [.int .i64 0, .int .i64 0, .int .i64 0, .nils, .nils, .nils, .nils, .nils], none, false, false, []⟩,
  ⟨none, .st 8 (.t 1) (.t 6), none, false, false, [6]⟩])
 (.seq (.ops 2 false [⟨some 7, .build [.int .i64 0, .int .i64 0, .int .u64 0, .int .u64 0, .int .i64 0, .int .i64 0, .int .i64 0, .int .i64 0, .nils] [(0, 1, .c (.int .i64 1))], none, false, false, []⟩,
  ⟨some 8, .build [.int .i64 0, .int .i64 0, .int .u64 0, .int .u64 0, .int .i64 0, .int .i64 0, .int .i64 0, .int .i64 0, .nils, .int .i64 0, .int .i64 0, .int .i64 0, .int .i64 0, .nils] [(0, 9, .t 7), (9, 1, .c (.int .i64 2))], none, false, false, [7]⟩,
  ⟨some 9, .rowView 14 [.t 8], none, false, false, [8]⟩,
  ⟨some 10, .build [.int .i64 0, .int .i64 0, .int .i64 0, .nils, .nils, .nils, .nils, .nils] [(3, 1, .t 9)], none, false, false, [9]⟩,
  ⟨some 2, .alloc [.int .i64 0, .int .i64 0, .int .i64 0, .nils, .nils, .nils, .nils, .nils], none, false, false, []⟩,
  ⟨none, .st 8 (.t 2) (.t 10), none, false, false, [10]⟩])
 (.seq (.ops 3 false [⟨some 11, .ld (some 8) [] (.t 1), none, false, false, []⟩,
  ⟨some 12, .ld (some 8) [] (.t 1), none, false, false, []⟩,
  ⟨some 13, .call (.c (.fn 15 [] [])) [.t 11, .t 12], none, false, false, [11, 12]⟩,
  ⟨some 14, .mv (.t 13), none, false, false, [13]⟩,
  ⟨some 15, .ld (some 8) [] (.t 1), (some (14, true)), true, false, []⟩,
  ⟨some 16, .ld (some 8) [] (.t 2), (some (14, true)), true, false, []⟩,
  ⟨some 17, .call (.c (.fn 15 [] [])) [.o 15, .o 16], (some (14, true)), true, false, [15, 16]⟩,
  ⟨some 18, .not (.o 17), (some (14, true)), true, false, [17]⟩,
  ⟨some 19, .pick (.t 14) (.t 18) (.c (.bool false)), none, false, false, [14, 18]⟩,
  ⟨some 20, .mv (.t 19), none, false, false, [19]⟩,
  ⟨some 21, .ld (some 8) [] (.t 1), (some (20, true)), true, false, [1]⟩,
  ⟨some 22, .ld (some 8) [] (.t 2), (some (20, true)), true, false, [2]⟩,
  ⟨some 23, .call (.c (.fn 14 [] [])) [.o 21, .o 22], (some (20, true)), true, false, [21, 22]⟩,
  ⟨some 24, .rowView 1 [.c (.int .i64 2)], (some (20, true)), true, false, []⟩,
  ⟨some 25, .call (.c (.fn 13 [] [])) [.o 23, .o 24], (some (20, true)), true, false, [23, 24]⟩,
  ⟨some 26, .pick (.t 20) (.t 25) (.c (.bool false)), none, false, false, [20, 25]⟩,
  ⟨some 0, .mv (.t 26), none, false, false, [26]⟩])
 (.ret))))
def rs_l34_alive : List IRes := [.t 0]
theorem ok_l34_alive : fnOk Try.prog 11 ic_l34_alive rs_l34_alive 27 = true := by kernel_rfl

/-- tallyman/tallymanlaw34.StepTells -/
def ic_l34_StepTells : ICode :=
 .seq (.ops 0 false [⟨some 2, .box (.t 0), none, false, false, [0]⟩,
  ⟨some 3, .box (.t 1), none, false, false, [1]⟩,
  ⟨some 4, .mv (.c (.bool false)), none, false, false, [4]⟩])
 (.seq (.seq (.ops 1 false [⟨some 6, .ld (some 8) [] (.t 2), none, false, false, []⟩,
  ⟨some 7, .call (.c (.fn 10 [] [])) [.t 6], none, false, false, [6]⟩,
  ⟨some 8, .not (.t 7), none, false, false, [7]⟩,
  ⟨some 9, .mv (.t 8), none, false, false, [8]⟩,
  ⟨some 10, .ld (some 8) [] (.t 3), (some (9, false)), true, false, []⟩,
  ⟨some 11, .call (.c (.fn 10 [] [])) [.o 10], (some (9, false)), true, false, [10]⟩,
  ⟨some 12, .not (.o 11), (some (9, false)), true, false, [11]⟩,
  ⟨some 13, .pick (.t 9) (.c (.bool true)) (.t 12), none, false, false, [9, 12]⟩])
 (.cond (.t 13)
  (.seq (.ops 2 false [⟨some 14, .call (.c (.fn 11 [] [])) [], none, false, false, []⟩,
   ⟨some 4, .mv (.t 14), none, false, false, [14]⟩])
  (.ret))
  (.skip)))
 (.seq (.ops 3 false [⟨some 15, .ld (some 8) [] (.t 2), none, false, false, []⟩,
  ⟨some 16, .ld (some 8) [] (.t 3), none, false, false, []⟩,
  ⟨some 17, .call (.c (.fn 12 [] [])) [.t 15, .t 16], none, false, false, [15, 16]⟩,
  ⟨some 5, .mv (.t 17), none, false, false, [17]⟩])
 (.seq (.ops 4 false [⟨some 18, .ld (some 8) [] (.t 2), none, false, false, []⟩,
  ⟨some 19, .ld (some 8) [] (.t 3), none, false, false, []⟩,
  ⟨some 20, .call (.c (.fn 14 [] [])) [.t 18, .t 19], none, false, false, [18, 19]⟩,
  ⟨some 21, .mv (.t 5), none, false, false, []⟩,
  ⟨some 22, .call (.c (.fn 13 [] [])) [.t 20, .t 21], none, false, false, [20, 21]⟩,
  ⟨some 23, .mv (.t 22), none, false, false, [22]⟩,
  ⟨some 24, .ld (some 8) [] (.t 2), (some (23, true)), true, false, [2]⟩,
  ⟨some 25, .ld (some 8) [] (.t 3), (some (23, true)), true, false, [3]⟩,
  ⟨some 26, .call (.c (.fn 15 [] [])) [.o 24, .o 25], (some (23, true)), true, false, [24, 25]⟩,
  ⟨some 27, .mv (.t 5), (some (23, true)), true, false, [5]⟩,
  ⟨some 28, .len (.o 27), (some (23, true)), true, false, [27]⟩,
  ⟨some 29, .bin .eql (.o 28) (.c (.int .i64 0)), (some (23, true)), true, false, [28]⟩,
  ⟨some 30, .eqb false (.o 26) (.o 29), (some (23, true)), true, false, [26, 29]⟩,
  ⟨some 31, .pick (.t 23) (.t 30) (.c (.bool false)), none, false, false, [23, 30]⟩,
  ⟨some 32, .mv (.t 31), none, false, false, [31]⟩,
  ⟨some 33, .call (.c (.fn 11 [] [])) [], (some (32, true)), true, false, []⟩,
  ⟨some 34, .pick (.t 32) (.t 33) (.c (.bool false)), none, false, false, [32, 33]⟩,
  ⟨some 4, .mv (.t 34), none, false, false, [34]⟩])
 (.ret))))
def rs_l34_StepTells : List IRes := [.t 4]
theorem ok_l34_StepTells : fnOk Try.prog 3 ic_l34_StepTells rs_l34_StepTells 35 = true := by kernel_rfl

/-- tallyman/tallymanlaw34.StepChains -/
def ic_l34_StepChains : ICode :=
 .seq (.ops 0 false [⟨some 3, .box (.t 0), none, false, false, [0]⟩,
  ⟨some 4, .box (.t 1), none, false, false, [1]⟩,
  ⟨some 5, .box (.t 2), none, false, false, [2]⟩,
  ⟨some 6, .mv (.c (.bool false)), none, false, false, [6]⟩])
 (.seq (.seq (.ops 1 false [⟨some 9, .ld (some 8) [] (.t 3), none, false, false, []⟩,
  ⟨some 10, .call (.c (.fn 10 [] [])) [.t 9], none, false, false, [9]⟩,
  ⟨some 11, .not (.t 10), none, false, false, [10]⟩,
  ⟨some 12, .mv (.t 11), none, false, false, [11]⟩,
  ⟨some 13, .ld (some 8) [] (.t 4), (some (12, false)), true, false, []⟩,
  ⟨some 14, .call (.c (.fn 10 [] [])) [.o 13], (some (12, false)), true, false, [13]⟩,
  ⟨some 15, .not (.o 14), (some (12, false)), true, false, [14]⟩,
  ⟨some 16, .pick (.t 12) (.c (.bool true)) (.t 15), none, false, false, [12, 15]⟩,
  ⟨some 17, .mv (.t 16), none, false, false, [16]⟩,
  ⟨some 18, .ld (some 8) [] (.t 5), (some (17, false)), true, false, []⟩,
  ⟨some 19, .call (.c (.fn 10 [] [])) [.o 18], (some (17, false)), true, false, [18]⟩,
  ⟨some 20, .not (.o 19), (some (17, false)), true, false, [19]⟩,
  ⟨some 21, .pick (.t 17) (.c (.bool true)) (.t 20), none, false, false, [17, 20]⟩])
 (.cond (.t 21)
  (.seq (.ops 2 false [⟨some 22, .call (.c (.fn 11 [] [])) [], none, false, false, []⟩,
   ⟨some 6, .mv (.t 22), none, false, false, [22]⟩])
  (.ret))
  (.skip)))
 (.seq (.seq (.ops 3 false [⟨some 23, .ld (some 8) [] (.t 3), none, false, false, []⟩,
  ⟨some 24, .ld (some 8) [] (.t 3), none, false, false, []⟩,
  ⟨some 25, .call (.c (.fn 15 [] [])) [.t 23, .t 24], none, false, false, [23, 24]⟩,
  ⟨some 26, .not (.t 25), none, false, false, [25]⟩])
 (.cond (.t 26)
  (.seq (.ops 4 false [⟨some 6, .mv (.c (.bool false)), none, false, false, []⟩])
  (.ret))
  (.skip)))
 (.seq (.seq (.ops 5 false [⟨some 27, .fa 6 (.t 3), none, false, false, []⟩,
  ⟨some 28, .ld none [] (.t 27), none, false, false, [27]⟩,
  ⟨some 29, .len (.t 28), none, false, false, []⟩,
  ⟨some 30, .mv (.c (.int .i64 0)), none, false, false, []⟩])
 (.block 0 (.loop [3, 4, 5, 28, 29, 30] (.seq (.ops 6 false [⟨some 31, .bin .lss (.t 30) (.t 29), none, false, false, []⟩])
   (.seq (.cond (.t 31)
    (.skip)
    (.exit 0))
   (.seq (.block 1 (.seq (.ops 7 false [⟨some 32, .ia 7 [.int .i64 0, .int .i64 0, .int .i64 0, .int .i64 0, .int .i64 0, .int .i64 0, .view []] (.t 28) (.t 30), none, false, false, []⟩,
     ⟨some 33, .ld (some 7) [.int .i64 0, .int .i64 0, .int .i64 0, .int .i64 0, .int .i64 0, .int .i64 0, .view []] (.t 32), none, false, false, [32]⟩,
     ⟨some 8, .alloc [.int .i64 0, .int .i64 0, .int .i64 0, .int .i64 0, .int .i64 0, .int .i64 0, .nils], none, false, false, []⟩,
     ⟨none, .st 7 (.t 8) (.t 33), none, false, false, [33]⟩])
    (.seq (.ops 8 false [⟨some 34, .fa 0 (.t 8), none, false, false, [8]⟩,
     ⟨some 35, .ld none [] (.t 34), none, false, false, [34]⟩,
     ⟨some 36, .fa 2 (.t 3), none, false, false, []⟩,
     ⟨some 37, .ld none [] (.t 36), none, false, false, [36]⟩,
     ⟨some 38, .bin .gtr (.t 35) (.t 37), none, false, false, [35, 37]⟩])
    (.cond (.t 38)
     (.seq (.ops 9 false [⟨some 39, .call (.c (.fn 11 [] [])) [], none, false, false, []⟩,
      ⟨some 6, .mv (.t 39), none, false, false, [39]⟩])
     (.ret))
     (.skip)))))
   (.ops 10 false [⟨some 40, .bin .add (.t 30) (.c (.int .i64 1)), none, false, false, [30]⟩,
    ⟨some 30, .mv (.t 40), none, false, false, [40]⟩])))))))
 (.seq (.ops 11 false [⟨some 41, .ld (some 8) [] (.t 3), none, false, false, []⟩,
  ⟨some 42, .ld (some 8) [] (.t 4), none, false, false, []⟩,
  ⟨some 43, .call (.c (.fn 15 [] [])) [.t 41, .t 42], none, false, false, [41, 42]⟩,
  ⟨some 44, .not (.t 43), none, false, false, [43]⟩,
  ⟨some 45, .mv (.t 44), none, false, false, [44]⟩,
  ⟨some 46, .ld (some 8) [] (.t 4), (some (45, false)), true, false, [4]⟩,
  ⟨some 47, .ld (some 8) [] (.t 5), (some (45, false)), true, false, []⟩,
  ⟨some 48, .call (.c (.fn 15 [] [])) [.o 46, .o 47], (some (45, false)), true, false, [46, 47]⟩,
  ⟨some 49, .not (.o 48), (some (45, false)), true, false, [48]⟩,
  ⟨some 50, .pick (.t 45) (.c (.bool true)) (.t 49), none, false, false, [45, 49]⟩,
  ⟨some 51, .mv (.t 50), none, false, false, [50]⟩,
  ⟨some 52, .ld (some 8) [] (.t 3), (some (51, false)), true, false, [3]⟩,
  ⟨some 53, .ld (some 8) [] (.t 5), (some (51, false)), true, false, [5]⟩,
  ⟨some 54, .call (.c (.fn 15 [] [])) [.o 52, .o 53], (some (51, false)), true, false, [52, 53]⟩,
  ⟨some 55, .pick (.t 51) (.c (.bool true)) (.t 54), none, false, false, [51, 54]⟩,
  ⟨some 56, .mv (.t 55), none, false, false, [55]⟩,
  ⟨some 57, .call (.c (.fn 11 [] [])) [], (some (56, true)), true, false, []⟩,
  ⟨some 58, .pick (.t 56) (.t 57) (.c (.bool false)), none, false, false, [56, 57]⟩,
  ⟨some 6, .mv (.t 58), none, false, false, [58]⟩])
 (.ret)))))
def rs_l34_StepChains : List IRes := [.t 6]
theorem ok_l34_StepChains : fnOk Try.prog 4 ic_l34_StepChains rs_l34_StepChains 59 = true := by kernel_rfl

end Go.Proofs.Ytfjidignjjaihaa.Sx
