/- Functions of the seat in the small language. No conditions: a kit of our own. -/
import Derived.Test.YtjpgnicgapkndaaProg
import Derived.Test.YtjpgnicgapkndaaSx17
namespace Go.Proofs.Ytjpgnicgapkndaa.Sx
open Go Go.RowKit
set_option linter.unusedVariables false

/-- tallyman/tallymanref07.At -/
def ic_r07_At : ICode :=
 .seq (.ops 0 false [⟨some 3, .box (.t 1), none, false, false, [1]⟩,
  ⟨some 4, .mv (.c (.int .i64 0)), none, false, false, [4]⟩,
  ⟨some 5, .mv (.c (.bool false)), none, false, false, [5]⟩])
 (.seq (.seq (.ops 1 false [⟨some 6, .mv (.c (.int .i64 0)), none, false, false, []⟩])
 (.block 0 (.loop [0, 3, 6] (.seq (.seq (.ops 2 false [⟨some 7, .mv (.t 6), none, false, false, []⟩,
    ⟨some 8, .mv (.t 0), none, false, false, []⟩,
    ⟨some 9, .len (.t 8), none, false, false, [8]⟩,
    ⟨some 10, .bin .lss (.t 7) (.t 9), none, false, false, [7, 9]⟩])
   (.cond (.t 10)
    (.skip)
    (.exit 0)))
   (.seq (.block 1 (.seq (.ops 4 true [⟨some 13, .mv (.t 0), none, false, false, []⟩,
     ⟨some 14, .mv (.t 6), none, false, false, []⟩,
     ⟨some 15, .ia 5 [.int .i64 0, .int .i64 0, .int .i64 0, .int .i64 0, .int .i64 0] (.t 13) (.t 14), none, false, false, [13, 14]⟩,
     ⟨some 16, .ld (some 5) [.int .i64 0, .int .i64 0, .int .i64 0, .int .i64 0, .int .i64 0] (.t 15), none, false, false, [15]⟩,
     ⟨some 17, .ld (some 2) [] (.t 3), none, false, false, []⟩,
     ⟨some 18, .call (.c (.fn 32 [] [])) [.t 16, .t 17], none, false, false, [16, 17]⟩])
    (.cond (.t 18)
     (.seq (.ops 5 false [⟨some 19, .mv (.t 0), none, false, false, [0]⟩,
      ⟨some 20, .mv (.t 6), none, false, false, [6]⟩,
      ⟨some 21, .ia 5 [.int .i64 0, .int .i64 0, .int .i64 0, .int .i64 0, .int .i64 0] (.t 19) (.t 20), none, false, false, [19, 20]⟩,
      ⟨some 22, .fa 0 (.t 21), none, false, false, [21]⟩,
      ⟨some 23, .ld none [.int .i64 0, .int .i64 0, .int .i64 0, .int .i64 0, .int .i64 0] (.t 22), none, false, false, [22]⟩,
      ⟨some 4, .mv (.t 23), none, false, false, [23]⟩,
      ⟨some 5, .mv (.c (.bool true)), none, false, false, []⟩])
     (.ret))
     (.skip))))
   (.ops 3 false [⟨some 11, .mv (.t 6), none, false, false, [6]⟩,
    ⟨some 12, .bin .add (.t 11) (.c (.int .i64 1)), none, false, false, [11]⟩,
    ⟨some 6, .mv (.t 12), none, false, false, [12]⟩]))))))
 (.seq (.ops 6 false [⟨some 4, .mv (.c (.int .i64 0)), none, false, false, []⟩,
  ⟨some 5, .mv (.c (.bool false)), none, false, false, []⟩])
 (.ret)))
def rs_r07_At : List IRes := [.t 4, .t 5]
theorem ok_r07_At : fnOk Try.prog 10 ic_r07_At rs_r07_At 24 = true := by kernel_rfl

/-- tallyman/tallymanlaw07.alive -/
def ic_l07_alive : ICode :=
 .seq (.ops 0 false [⟨some 0, .mv (.c (.bool false)), none, false, false, [0]⟩])
 (.seq (.ops 1 false [⟨some 5, .build [.int .i64 0, .int .i64 0] [(0, 1, .c (.int .i64 2))], none, false, false, []⟩,
  ⟨some 6, .build [.int .i64 0, .int .i64 0] [(0, 1, .c (.int .i64 2)), (1, 1, .c (.int .i64 5))], none, false, false, []⟩,
  ⟨some 7, .build [.int .i64 0, .int .i64 0, .int .i64 0, .int .i64 0, .int .i64 0] [(0, 1, .c (.int .i64 3)), (1, 2, .t 5), (3, 2, .t 6)], none, false, false, [5, 6]⟩,
  ⟨some 8, .rowView 5 [.t 7], none, false, false, [7]⟩,
  ⟨some 1, .mv (.t 8), none, false, false, [8]⟩])
 (.seq (.ops 2 false [⟨some 9, .mv (.t 1), none, false, false, []⟩,
  ⟨some 10, .build [.int .i64 0, .int .i64 0] [(1, 1, .c (.int .i64 1))], none, false, false, []⟩,
  ⟨some 11, .build [.int .i64 0, .int .i64 0] [(0, 1, .c (.int .i64 4)), (1, 1, .c (.int .i64 1))], none, false, false, []⟩,
  ⟨some 12, .call (.c (.fn 19 [] [])) [.t 9, .t 10, .t 11, .c (.int .i64 0)], none, false, false, [9, 10, 11]⟩,
  ⟨some 2, .mv (.t 12), none, false, false, [12]⟩])
 (.seq (.ops 3 false [⟨some 14, .mv (.t 1), none, false, false, []⟩,
  ⟨some 15, .build [.int .i64 0, .int .i64 0] [(0, 1, .c (.int .i64 2)), (1, 1, .c (.int .i64 5))], none, false, false, []⟩,
  ⟨some 16, .call (.c (.fn 9 [] [])) [.t 14, .t 15], none, false, false, [14, 15]⟩,
  ⟨some 13, .mv (.t 16), none, false, false, [16]⟩,
  ⟨some 17, .ext 0 (.t 13), none, false, false, []⟩,
  ⟨some 18, .ext 1 (.t 13), none, false, false, [13]⟩,
  ⟨some 3, .mv (.t 17), none, false, false, [17]⟩,
  ⟨some 4, .mv (.t 18), none, false, false, [18]⟩])
 (.seq (.ops 4 false [⟨some 19, .mv (.t 1), none, false, false, [1]⟩,
  ⟨some 20, .call (.c (.fn 11 [] [])) [.t 19], none, false, false, [19]⟩,
  ⟨some 21, .mv (.t 20), none, false, false, [20]⟩,
  ⟨some 22, .mv (.t 2), (some (21, true)), true, false, [2]⟩,
  ⟨some 23, .rowView 1 [.c (.int .i64 3)], (some (21, true)), true, false, []⟩,
  ⟨some 24, .call (.c (.fn 18 [] [])) [.o 22, .o 23], (some (21, true)), true, false, [22, 23]⟩,
  ⟨some 25, .pick (.t 21) (.t 24) (.c (.bool false)), none, false, false, [21, 24]⟩,
  ⟨some 26, .mv (.t 25), none, false, false, [25]⟩,
  ⟨some 27, .mv (.t 3), (some (26, true)), true, false, [3]⟩,
  ⟨some 28, .bin .eql (.o 27) (.c (.int .i64 3)), (some (26, true)), true, false, [27]⟩,
  ⟨some 29, .pick (.t 26) (.t 28) (.c (.bool false)), none, false, false, [26, 28]⟩,
  ⟨some 30, .mv (.t 29), none, false, false, [29]⟩,
  ⟨some 31, .mv (.t 4), (some (30, true)), true, false, [4]⟩,
  ⟨some 32, .pick (.t 30) (.t 31) (.c (.bool false)), none, false, false, [30, 31]⟩,
  ⟨some 0, .mv (.t 32), none, false, false, [32]⟩])
 (.ret)))))
def rs_l07_alive : List IRes := [.t 0]
theorem ok_l07_alive : fnOk Try.prog 8 ic_l07_alive rs_l07_alive 33 = true := by kernel_rfl

/-- tallyman/tallymanlaw07.PlanTells -/
def ic_l07_PlanTells : ICode :=
 .seq (.ops 0 false [⟨some 5, .box (.t 1), none, false, false, [1]⟩,
  ⟨some 6, .box (.t 2), none, false, false, [2]⟩,
  ⟨some 7, .box (.t 3), none, false, false, [3]⟩,
  ⟨some 8, .mv (.c (.bool false)), none, false, false, [8]⟩])
 (.seq (.seq (.ops 1 false [⟨some 13, .mv (.t 0), none, false, false, []⟩,
  ⟨some 14, .len (.t 13), none, false, false, [13]⟩,
  ⟨some 15, .bin .gtr (.t 14) (.c (.int .i64 60)), none, false, false, [14]⟩])
 (.cond (.t 15)
  (.seq (.ops 2 false [⟨some 16, .call (.c (.fn 8 [] [])) [], none, false, false, []⟩,
   ⟨some 8, .mv (.t 16), none, false, false, [16]⟩])
  (.ret))
  (.skip)))
 (.seq (.ops 3 false [⟨some 18, .mv (.t 0), none, false, false, []⟩,
  ⟨some 19, .ld (some 2) [] (.t 7), none, false, false, []⟩,
  ⟨some 20, .call (.c (.fn 9 [] [])) [.t 18, .t 19], none, false, false, [18, 19]⟩,
  ⟨some 17, .mv (.t 20), none, false, false, [20]⟩,
  ⟨some 21, .ext 0 (.t 17), none, false, false, []⟩,
  ⟨some 22, .ext 1 (.t 17), none, false, false, [17]⟩,
  ⟨some 9, .mv (.t 21), none, false, false, [21]⟩,
  ⟨some 10, .mv (.t 22), none, false, false, [22]⟩])
 (.seq (.ops 4 false [⟨some 24, .mv (.t 0), none, false, false, []⟩,
  ⟨some 25, .ld (some 2) [] (.t 7), none, false, false, [7]⟩,
  ⟨some 26, .call (.c (.fn 10 [] [])) [.t 24, .t 25], none, false, false, [24, 25]⟩,
  ⟨some 23, .mv (.t 26), none, false, false, [26]⟩,
  ⟨some 27, .ext 0 (.t 23), none, false, false, []⟩,
  ⟨some 28, .ext 1 (.t 23), none, false, false, [23]⟩,
  ⟨some 11, .mv (.t 27), none, false, false, [27]⟩,
  ⟨some 12, .mv (.t 28), none, false, false, [28]⟩])
 (.seq (.ops 5 true [⟨some 29, .mv (.t 0), none, false, false, []⟩,
  ⟨some 30, .call (.c (.fn 11 [] [])) [.t 29], none, false, false, [29]⟩,
  ⟨some 31, .mv (.t 0), none, false, false, [0]⟩,
  ⟨some 32, .call (.c (.fn 12 [] [])) [.t 31], none, false, false, [31]⟩,
  ⟨some 33, .eqb false (.t 30) (.t 32), none, false, false, [30, 32]⟩,
  ⟨some 34, .mv (.t 33), none, false, false, [33]⟩,
  ⟨some 35, .ld (some 5) [] (.t 5), (some (34, true)), true, false, []⟩,
  ⟨some 36, .ld (some 5) [] (.t 6), (some (34, true)), true, false, []⟩,
  ⟨some 37, .call (.c (.fn 13 [] [])) [.o 35, .o 36], (some (34, true)), true, false, [35, 36]⟩,
  ⟨some 38, .ld (some 5) [] (.t 5), (some (34, true)), true, false, [5]⟩,
  ⟨some 39, .ld (some 5) [] (.t 6), (some (34, true)), true, false, [6]⟩,
  ⟨some 40, .call (.c (.fn 14 [] [])) [.o 38, .o 39], (some (34, true)), true, false, [38, 39]⟩,
  ⟨some 41, .eqb false (.o 37) (.o 40), (some (34, true)), true, false, [37, 40]⟩,
  ⟨some 42, .pick (.t 34) (.t 41) (.c (.bool false)), none, false, false, [34, 41]⟩,
  ⟨some 43, .mv (.t 42), none, false, false, [42]⟩,
  ⟨some 44, .mv (.t 9), (some (43, true)), true, false, [9]⟩,
  ⟨some 45, .mv (.t 11), (some (43, true)), true, false, [11]⟩,
  ⟨some 46, .bin .eql (.o 44) (.o 45), (some (43, true)), true, false, [44, 45]⟩,
  ⟨some 47, .pick (.t 43) (.t 46) (.c (.bool false)), none, false, false, [43, 46]⟩,
  ⟨some 48, .mv (.t 47), none, false, false, [47]⟩,
  ⟨some 49, .mv (.t 10), (some (48, true)), true, false, [10]⟩,
  ⟨some 50, .mv (.t 12), (some (48, true)), true, false, [12]⟩,
  ⟨some 51, .eqb false (.o 49) (.o 50), (some (48, true)), true, false, [49, 50]⟩,
  ⟨some 52, .pick (.t 48) (.t 51) (.c (.bool false)), none, false, false, [48, 51]⟩,
  ⟨some 53, .mv (.t 52), none, false, false, [52]⟩,
  ⟨some 54, .call (.c (.fn 8 [] [])) [], (some (53, true)), true, false, []⟩,
  ⟨some 55, .pick (.t 53) (.t 54) (.c (.bool false)), none, false, false, [53, 54]⟩,
  ⟨some 8, .mv (.t 55), none, false, false, [55]⟩])
 (.ret)))))
def rs_l07_PlanTells : List IRes := [.t 8]
theorem ok_l07_PlanTells : fnOk Try.prog 3 ic_l07_PlanTells rs_l07_PlanTells 56 = true := by kernel_rfl

end Go.Proofs.Ytjpgnicgapkndaa.Sx
