/- Functions of the seat in the small language. No conditions: a kit of our own. -/
import Derived.Test.YtaimhgmakgbfaaaProg
import Derived.Test.YtaimhgmakgbfaaaSx17
namespace Go.Proofs.Ytaimhgmakgbfaaa.Sx
open Go Go.RowKit
set_option linter.unusedVariables false

/-- slices.isNaN(int) -/
def ic_slices_isNaN_int : ICode :=
 .seq (.ops 0 false [⟨some 2, .mv (.c (.bool false)), none, false, false, [2]⟩])
 (.seq (.ops 1 false [⟨some 3, .mv (.t 0), none, false, false, []⟩,
  ⟨some 4, .mv (.t 0), none, false, false, [0]⟩,
  ⟨some 5, .bin .neq (.t 3) (.t 4), none, false, false, [3, 4]⟩,
  ⟨some 2, .mv (.t 5), none, false, false, [5]⟩])
 (.ret))
def rs_slices_isNaN_int : List IRes := [.t 2]
theorem ok_slices_isNaN_int : fnOk Try.prog 185 ic_slices_isNaN_int rs_slices_isNaN_int 6 = true := by kernel_rfl

/-- slices.BinarySearch(()int,int) -/
def ic_slices_BinarySearch_int_int : ICode :=
 .seq (.ops 0 false [⟨some 4, .mv (.c (.int .i64 0)), none, false, false, [4]⟩,
  ⟨some 5, .mv (.c (.bool false)), none, false, false, [5]⟩])
 (.seq (.ops 1 false [⟨some 10, .mv (.t 0), none, false, false, []⟩,
  ⟨some 11, .len (.t 10), none, false, false, [10]⟩,
  ⟨some 6, .mv (.t 11), none, false, false, [11]⟩])
 (.seq (.ops 2 false [⟨some 12, .mv (.t 6), none, false, false, []⟩,
  ⟨some 7, .mv (.c (.int .i64 0)), none, false, false, []⟩,
  ⟨some 8, .mv (.t 12), none, false, false, [12]⟩])
 (.seq (.block 0 (.loop [0, 1, 6, 7, 8] (.seq (.seq (.ops 3 false [⟨some 13, .mv (.t 7), none, false, false, []⟩,
    ⟨some 14, .mv (.t 8), none, false, false, []⟩,
    ⟨some 15, .bin .lss (.t 13) (.t 14), none, false, false, [13, 14]⟩])
   (.cond (.t 15)
    (.skip)
    (.exit 0)))
   (.block 1 (.seq (.ops 4 false [⟨some 16, .mv (.t 7), none, false, false, []⟩,
     ⟨some 17, .mv (.t 8), none, false, false, []⟩,
     ⟨some 18, .bin .add (.t 16) (.t 17), none, false, false, [16, 17]⟩,
     ⟨some 19, .cvw .u64 (.t 18), none, false, false, [18]⟩,
     ⟨some 20, .binw .shr (.t 19) (.c (.int .u64 1)), none, false, false, [19]⟩,
     ⟨some 21, .cvw .i64 (.t 20), none, false, false, [20]⟩,
     ⟨some 9, .mv (.t 21), none, false, false, [21]⟩])
    (.seq (.ops 5 false [⟨some 22, .mv (.t 0), none, false, false, []⟩,
     ⟨some 23, .mv (.t 9), none, false, false, []⟩,
     ⟨some 24, .ia 1 [.int .i64 0] (.t 22) (.t 23), none, false, false, [22, 23]⟩,
     ⟨some 25, .ld none [.int .i64 0] (.t 24), none, false, false, [24]⟩,
     ⟨some 26, .mv (.t 1), none, false, false, []⟩,
     ⟨some 27, .call (.c (.fn 180 [] [])) [.t 25, .t 26], none, false, false, [25, 26]⟩])
    (.cond (.t 27)
     (.ops 6 false [⟨some 28, .mv (.t 9), none, false, false, [9]⟩,
      ⟨some 29, .bin .add (.t 28) (.c (.int .i64 1)), none, false, false, [28]⟩,
      ⟨some 7, .mv (.t 29), none, false, false, [29]⟩])
     (.ops 7 false [⟨some 30, .mv (.t 9), none, false, false, [9]⟩,
      ⟨some 8, .mv (.t 30), none, false, false, [30]⟩]))))))))
 (.seq (.ops 8 false [⟨some 31, .mv (.t 7), none, false, false, []⟩,
  ⟨some 32, .mv (.t 7), none, false, false, []⟩,
  ⟨some 33, .mv (.t 6), none, false, false, [6]⟩,
  ⟨some 34, .bin .lss (.t 32) (.t 33), none, false, false, [32, 33]⟩,
  ⟨some 35, .mv (.t 34), none, false, false, [34]⟩,
  ⟨some 36, .mv (.t 0), (some (35, true)), true, false, []⟩,
  ⟨some 37, .mv (.t 7), (some (35, true)), true, false, []⟩,
  ⟨some 38, .ia 1 [.int .i64 0] (.o 36) (.o 37), (some (35, true)), true, false, [36, 37]⟩,
  ⟨some 39, .ld none [.int .i64 0] (.o 38), (some (35, true)), true, false, [38]⟩,
  ⟨some 40, .mv (.t 1), (some (35, true)), true, false, []⟩,
  ⟨some 41, .bin .eql (.o 39) (.o 40), (some (35, true)), true, false, [39, 40]⟩,
  ⟨some 42, .mv (.o 41), (some (35, true)), true, false, [41]⟩,
  ⟨some 43, .mv (.t 0), (some (42, false)), true, false, [0]⟩,
  ⟨some 44, .mv (.t 7), (some (42, false)), true, false, [7]⟩,
  ⟨some 45, .ia 1 [.int .i64 0] (.o 43) (.o 44), (some (42, false)), true, false, [43, 44]⟩,
  ⟨some 46, .ld none [.int .i64 0] (.o 45), (some (42, false)), true, false, [45]⟩,
  ⟨some 47, .call (.c (.fn 185 [] [])) [.o 46], (some (42, false)), true, false, [46]⟩,
  ⟨some 48, .mv (.o 47), (some (42, false)), true, false, [47]⟩,
  ⟨some 49, .mv (.t 1), (some (48, true)), true, false, [1]⟩,
  ⟨some 50, .call (.c (.fn 185 [] [])) [.o 49], (some (48, true)), true, false, [49]⟩,
  ⟨some 51, .pick (.o 48) (.t 50) (.c (.bool false)), (some (42, false)), true, false, [48, 50]⟩,
  ⟨some 52, .pick (.o 42) (.c (.bool true)) (.t 51), (some (35, true)), true, false, [42, 51]⟩,
  ⟨some 53, .pick (.t 35) (.t 52) (.c (.bool false)), none, false, false, [35, 52]⟩,
  ⟨some 4, .mv (.t 31), none, false, false, [31]⟩,
  ⟨some 5, .mv (.t 53), none, false, false, [53]⟩])
 (.ret)))))
def rs_slices_BinarySearch_int_int : List IRes := [.t 4, .t 5]
theorem ok_slices_BinarySearch_int_int : fnOk Try.prog 145 ic_slices_BinarySearch_int_int rs_slices_BinarySearch_int_int 54 = true := by kernel_rfl

/-- (*tallyman/graph.web).has -/
def ic_graph_web_has : ICode :=
 .seq (.ops 0 false [⟨some 4, .mv (.c (.bool false)), none, false, false, [4]⟩])
 (.seq (.ops 1 false [⟨some 8, .mv (.t 0), none, false, false, [0]⟩,
  ⟨some 9, .nilc (.t 8), none, false, false, [8]⟩,
  ⟨some 10, .fa 0 (.t 9), none, false, false, [9]⟩,
  ⟨some 11, .ld none [] (.t 10), none, false, false, [10]⟩,
  ⟨some 12, .mv (.t 1), none, false, false, [1]⟩,
  ⟨some 13, .call (.c (.fn 145 [] [])) [.t 11, .t 12], none, false, false, [11, 12]⟩,
  ⟨some 7, .mv (.t 13), none, false, false, [13]⟩,
  ⟨some 14, .ext 0 (.t 7), none, false, false, []⟩,
  ⟨some 15, .ext 1 (.t 7), none, false, false, [7]⟩,
  ⟨some 5, .mv (.t 14), none, false, false, [5, 14]⟩,
  ⟨some 6, .mv (.t 15), none, false, false, [15]⟩])
 (.seq (.ops 2 false [⟨some 16, .mv (.t 6), none, false, false, [6]⟩,
  ⟨some 4, .mv (.t 16), none, false, false, [16]⟩])
 (.ret)))
def rs_graph_web_has : List IRes := [.t 4]
theorem ok_graph_web_has : fnOk Try.prog 81 ic_graph_web_has rs_graph_web_has 17 = true := by kernel_rfl

/-- tallyman/graph.of -/
def ic_graph_of : ICode :=
 .seq (.ops 0 false [⟨some 4, .mv (.c (.nilp)), none, false, false, [4]⟩])
 (.seq (.ops 1 false [⟨some 8, .mv (.t 0), none, false, false, [0]⟩,
  ⟨some 9, .call (.c (.fn 62 [] [])) [.t 8], none, false, false, [8]⟩,
  ⟨some 10, .mkmap, none, false, false, []⟩,
  ⟨some 11, .mkmap, none, false, false, []⟩,
  ⟨some 12, .build [.nils, .nilm, .nilm] [(0, 1, .t 9), (1, 1, .t 10), (2, 1, .t 11)], none, false, false, [9, 10, 11]⟩,
  ⟨some 13, .box (.t 12), none, false, false, [12]⟩,
  ⟨some 5, .mv (.t 13), none, false, false, [13]⟩])
 (.seq (.ops 2 false [⟨some 14, .mv (.t 5), none, false, false, []⟩,
  ⟨some 15, .nilc (.t 14), none, false, false, [14]⟩,
  ⟨some 16, .fa 0 (.t 15), none, false, false, [15]⟩,
  ⟨some 17, .ld none [] (.t 16), none, false, false, [16]⟩,
  ⟨some 18, .call (.c (.fn 80 [] [])) [.t 17], none, false, false, [17, 18]⟩])
 (.seq (.ops 3 false [⟨some 19, .mv (.t 5), none, false, false, []⟩,
  ⟨some 20, .mv (.t 5), none, false, false, []⟩,
  ⟨some 21, .nilc (.t 20), none, false, false, [20]⟩,
  ⟨some 22, .fa 0 (.t 21), none, false, false, [21]⟩,
  ⟨some 23, .ld none [] (.t 22), none, false, false, [22]⟩,
  ⟨some 24, .call (.c (.fn 139 [] [])) [.t 23], none, false, false, [23]⟩,
  ⟨some 25, .nilc (.t 19), none, false, false, [19]⟩,
  ⟨some 26, .fa 0 (.t 25), none, false, false, [25]⟩,
  ⟨none, .st 1 (.t 26) (.t 24), none, false, false, [24, 26]⟩])
 (.seq (.seq (.ops 4 false [⟨some 27, .mv (.t 1), none, false, false, [1]⟩,
  ⟨some 28, .len (.t 27), none, false, false, []⟩,
  ⟨some 29, .mv (.c (.int .i64 0)), none, false, false, []⟩])
 (.block 0 (.loop [5, 27, 28, 29] (.seq (.ops 5 false [⟨some 30, .bin .lss (.t 29) (.t 28), none, false, false, []⟩])
   (.seq (.cond (.t 30)
    (.skip)
    (.exit 0))
   (.seq (.block 1 (.seq (.ops 6 false [⟨some 31, .ia 2 [.int .i64 0, .int .i64 0] (.t 27) (.t 29), none, false, false, []⟩,
     ⟨some 32, .ld (some 2) [.int .i64 0, .int .i64 0] (.t 31), none, false, false, [31]⟩,
     ⟨some 7, .alloc [.int .i64 0, .int .i64 0], none, false, false, []⟩,
     ⟨none, .st 2 (.t 7) (.t 32), none, false, false, [32]⟩])
    (.seq (.ops 7 false [⟨some 33, .mv (.t 5), none, false, false, []⟩,
     ⟨some 34, .fa 0 (.t 7), none, false, false, []⟩,
     ⟨some 35, .ld none [] (.t 34), none, false, false, [34]⟩,
     ⟨some 36, .call (.c (.fn 81 [] [])) [.t 33, .t 35], none, false, false, [33, 35]⟩,
     ⟨some 37, .mv (.t 36), none, false, false, [36]⟩,
     ⟨some 38, .mv (.t 5), (some (37, true)), true, false, []⟩,
     ⟨some 39, .fa 1 (.t 7), (some (37, true)), true, false, []⟩,
     ⟨some 40, .ld none [] (.o 39), (some (37, true)), true, false, [39]⟩,
     ⟨some 41, .call (.c (.fn 81 [] [])) [.o 38, .o 40], (some (37, true)), true, false, [38, 40]⟩,
     ⟨some 42, .pick (.t 37) (.t 41) (.c (.bool false)), none, false, false, [37, 41]⟩])
    (.cond (.t 42)
     (.seq (.ops 8 true [⟨some 43, .mv (.t 5), none, false, false, []⟩,
      ⟨some 44, .nilc (.t 43), none, false, true, [43]⟩,
      ⟨some 45, .fa 1 (.t 44), none, false, true, [44]⟩,
      ⟨some 46, .ld none [] (.t 45), none, false, true, [45]⟩,
      ⟨some 47, .fa 0 (.t 7), none, false, true, []⟩,
      ⟨some 48, .ld none [] (.t 47), none, false, true, [47]⟩,
      ⟨some 49, .mv (.t 5), none, false, false, []⟩,
      ⟨some 50, .nilc (.t 49), none, false, false, [49]⟩,
      ⟨some 51, .fa 1 (.t 50), none, false, false, [50]⟩,
      ⟨some 52, .ld none [] (.t 51), none, false, false, [51]⟩,
      ⟨some 53, .fa 0 (.t 7), none, false, false, []⟩,
      ⟨some 54, .ld none [] (.t 53), none, false, false, [53]⟩,
      ⟨some 55, .look (.nils) false (.t 52) (.t 54), none, false, false, [52, 54]⟩,
      ⟨some 56, .fa 1 (.t 7), none, false, false, []⟩,
      ⟨some 57, .ld none [] (.t 56), none, false, false, [56]⟩,
      ⟨some 58, .rowView 1 [.t 57], none, false, false, [57]⟩,
      ⟨some 59, .app 1 (.t 55) (.t 58), none, false, false, [55, 58]⟩,
      ⟨none, .mapup (.t 46) (.t 48) (.t 59), none, false, false, [46, 48, 59]⟩])
     (.ops 9 true [⟨some 60, .mv (.t 5), none, false, false, []⟩,
      ⟨some 61, .nilc (.t 60), none, false, false, [60]⟩,
      ⟨some 62, .fa 2 (.t 61), none, false, false, [61]⟩,
      ⟨some 63, .ld none [] (.t 62), none, false, false, [62]⟩,
      ⟨some 64, .fa 1 (.t 7), none, false, false, [7]⟩,
      ⟨some 65, .ld none [] (.t 64), none, false, false, [64]⟩,
      ⟨some 66, .look (.int .i64 0) false (.t 63) (.t 65), none, false, false, []⟩,
      ⟨some 67, .bin .add (.t 66) (.c (.int .i64 1)), none, false, false, [66]⟩,
      ⟨none, .mapup (.t 63) (.t 65) (.t 67), none, false, false, [63, 65, 67]⟩]))
     (.skip)))))
   (.ops 10 false [⟨some 68, .bin .add (.t 29) (.c (.int .i64 1)), none, false, false, [29]⟩,
    ⟨some 29, .mv (.t 68), none, false, false, [68]⟩])))))))
 (.seq (.ops 11 false [⟨some 69, .mv (.t 5), none, false, false, [5]⟩,
  ⟨some 4, .mv (.t 69), none, false, false, [69]⟩])
 (.ret))))))
def rs_graph_of : List IRes := [.t 4]
theorem ok_graph_of : fnOk Try.prog 74 ic_graph_of rs_graph_of 70 = true := by kernel_rfl

/-- (*tallyman/graph.web).order -/
def ic_graph_web_order : ICode :=
 .back [0, 1, 4, 5] (.seq (.ops 0 false [⟨some 12, .call (.c (.fn 140 [] [])) [], none, false, false, []⟩,
   ⟨some 13, .mkmap, none, false, false, []⟩,
   ⟨some 4, .mv (.t 12), none, false, false, [12]⟩,
   ⟨some 5, .mv (.t 13), none, false, false, [13]⟩])
 (.seq (.seq (.ops 1 false [⟨some 14, .mv (.t 0), none, false, false, []⟩,
   ⟨some 15, .nilc (.t 14), none, false, false, [14]⟩,
   ⟨some 16, .fa 0 (.t 15), none, false, false, [15]⟩,
   ⟨some 17, .ld none [] (.t 16), none, false, false, [16]⟩,
   ⟨some 18, .len (.t 17), none, false, false, []⟩,
   ⟨some 19, .mv (.c (.int .i64 0)), none, false, false, []⟩])
  (.block 0 (.loop [0, 1, 4, 5, 17, 18, 19] (.seq (.ops 2 false [⟨some 20, .bin .lss (.t 19) (.t 18), none, false, false, []⟩])
    (.seq (.cond (.t 20)
     (.skip)
     (.exit 0))
    (.seq (.block 1 (.seq (.ops 3 false [⟨some 21, .ia 1 [.int .i64 0] (.t 17) (.t 19), none, false, false, []⟩,
      ⟨some 22, .ld none [.int .i64 0] (.t 21), none, false, false, [21]⟩,
      ⟨some 7, .mv (.t 22), none, false, false, [22]⟩])
     (.seq (.ops 4 false [⟨some 23, .mv (.t 0), none, false, false, []⟩,
      ⟨some 24, .nilc (.t 23), none, false, false, [23]⟩,
      ⟨some 25, .fa 2 (.t 24), none, false, false, [24]⟩,
      ⟨some 26, .ld none [] (.t 25), none, false, false, [25]⟩,
      ⟨some 27, .mv (.t 7), none, false, false, []⟩,
      ⟨some 28, .look (.int .i64 0) false (.t 26) (.t 27), none, false, false, [26, 27]⟩,
      ⟨some 29, .bin .eql (.t 28) (.c (.int .i64 0)), none, false, false, [28]⟩])
     (.cond (.t 29)
      (.ops 5 false [⟨some 30, .mv (.t 4), none, false, false, []⟩,
       ⟨some 31, .mv (.t 7), none, false, false, []⟩,
       ⟨some 32, .mv (.t 7), none, false, false, [7]⟩,
       ⟨some 33, .call (.c (.fn 141 [] [])) [.t 30, .t 31, .c (.int .i64 0), .t 32], none, false, false, [30, 31, 32, 33]⟩])
      (.skip)))))
    (.ops 6 false [⟨some 34, .bin .add (.t 19) (.c (.int .i64 1)), none, false, false, [19]⟩,
     ⟨some 19, .mv (.t 34), none, false, false, [34]⟩])))))))
 (.label 0))) 0
  (.seq (.ops 7 false [⟨some 36, .mv (.t 4), none, false, false, []⟩,
   ⟨some 37, .call (.c (.fn 142 [] [])) [.t 36], none, false, false, [36]⟩,
   ⟨some 35, .mv (.t 37), none, false, false, [37]⟩,
   ⟨some 38, .ext 0 (.t 35), none, false, false, []⟩,
   ⟨some 39, .ext 1 (.t 35), none, false, false, [35]⟩,
   ⟨some 8, .mv (.t 38), none, false, false, [38]⟩,
   ⟨some 9, .mv (.t 39), none, false, false, [39]⟩])
  (.seq (.seq (.ops 8 false [⟨some 40, .mv (.t 9), none, false, false, [9]⟩,
   ⟨some 41, .not (.t 40), none, false, false, [40]⟩])
  (.cond (.t 41)
   (.ret)
   (.skip)))
  (.seq (.ops 9 false [⟨some 42, .mv (.t 1), none, false, false, []⟩,
   ⟨some 43, .mv (.t 8), none, false, false, []⟩,
   ⟨some 44, .mv (.t 5), none, false, false, []⟩,
   ⟨some 45, .mv (.t 8), none, false, false, []⟩,
   ⟨some 46, .look (.int .i64 0) false (.t 44) (.t 45), none, false, false, [44, 45]⟩,
   ⟨some 47, .call (.t 42) [.t 43, .t 46], none, false, false, [42, 43, 46, 47]⟩])
  (.seq (.seq (.ops 10 false [⟨some 48, .mv (.t 0), none, false, false, []⟩,
   ⟨some 49, .nilc (.t 48), none, false, false, [48]⟩,
   ⟨some 50, .fa 1 (.t 49), none, false, false, [49]⟩,
   ⟨some 51, .ld none [] (.t 50), none, false, false, [50]⟩,
   ⟨some 52, .mv (.t 8), none, false, false, []⟩,
   ⟨some 53, .look (.nils) false (.t 51) (.t 52), none, false, false, [51, 52]⟩,
   ⟨some 54, .len (.t 53), none, false, false, []⟩,
   ⟨some 55, .mv (.c (.int .i64 0)), none, false, false, []⟩])
  (.block 2 (.loop [0, 1, 4, 5, 8, 53, 54, 55] (.seq (.ops 11 false [⟨some 56, .bin .lss (.t 55) (.t 54), none, false, false, []⟩])
    (.seq (.cond (.t 56)
     (.skip)
     (.exit 2))
    (.seq (.block 3 (.seq (.ops 12 false [⟨some 57, .ia 1 [.int .i64 0] (.t 53) (.t 55), none, false, false, []⟩,
      ⟨some 58, .ld none [.int .i64 0] (.t 57), none, false, false, [57]⟩,
      ⟨some 11, .mv (.t 58), none, false, false, [58]⟩])
     (.seq (.ops 13 false [⟨some 59, .mv (.t 5), none, false, false, []⟩,
      ⟨some 60, .mv (.t 11), none, false, false, []⟩,
      ⟨some 61, .mv (.t 5), none, false, false, []⟩,
      ⟨some 62, .mv (.t 11), none, false, false, []⟩,
      ⟨some 63, .look (.int .i64 0) false (.t 61) (.t 62), none, false, false, [61, 62]⟩,
      ⟨some 64, .mv (.t 5), none, false, false, []⟩,
      ⟨some 65, .mv (.t 8), none, false, false, []⟩,
      ⟨some 66, .look (.int .i64 0) false (.t 64) (.t 65), none, false, false, [64, 65]⟩,
      ⟨some 67, .bin .add (.t 66) (.c (.int .i64 1)), none, false, false, [66]⟩,
      ⟨some 68, .mx [.t 63, .t 67], none, false, false, [63, 67]⟩,
      ⟨none, .mapup (.t 59) (.t 60) (.t 68), none, false, false, [59, 60, 68]⟩])
     (.seq (.ops 14 false [⟨some 69, .mv (.t 0), none, false, false, []⟩,
      ⟨some 70, .nilc (.t 69), none, false, false, [69]⟩,
      ⟨some 71, .fa 2 (.t 70), none, false, false, [70]⟩,
      ⟨some 72, .ld none [] (.t 71), none, false, false, [71]⟩,
      ⟨some 73, .mv (.t 11), none, false, false, []⟩,
      ⟨some 74, .look (.int .i64 0) false (.t 72) (.t 73), none, false, false, []⟩,
      ⟨some 75, .bin .sub (.t 74) (.c (.int .i64 1)), none, false, false, [74]⟩,
      ⟨none, .mapup (.t 72) (.t 73) (.t 75), none, false, false, [72, 73, 75]⟩])
     (.seq (.ops 15 false [⟨some 76, .mv (.t 0), none, false, false, []⟩,
      ⟨some 77, .nilc (.t 76), none, false, false, [76]⟩,
      ⟨some 78, .fa 2 (.t 77), none, false, false, [77]⟩,
      ⟨some 79, .ld none [] (.t 78), none, false, false, [78]⟩,
      ⟨some 80, .mv (.t 11), none, false, false, []⟩,
      ⟨some 81, .look (.int .i64 0) false (.t 79) (.t 80), none, false, false, [79, 80]⟩,
      ⟨some 82, .bin .eql (.t 81) (.c (.int .i64 0)), none, false, false, [81]⟩])
     (.cond (.t 82)
      (.ops 16 false [⟨some 83, .mv (.t 4), none, false, false, []⟩,
       ⟨some 84, .mv (.t 11), none, false, false, []⟩,
       ⟨some 85, .mv (.t 11), none, false, false, [11]⟩,
       ⟨some 86, .call (.c (.fn 141 [] [])) [.t 83, .t 84, .c (.int .i64 0), .t 85], none, false, false, [83, 84, 85, 86]⟩])
      (.skip)))))))
    (.ops 17 false [⟨some 87, .bin .add (.t 55) (.c (.int .i64 1)), none, false, false, [55]⟩,
     ⟨some 55, .mv (.t 87), none, false, false, [87]⟩])))))))
  (.goto 0)))))
def rs_graph_web_order : List IRes := []
theorem ok_graph_web_order : fnOk Try.prog 75 ic_graph_web_order rs_graph_web_order 88 = true := by kernel_rfl

/-- tallyman/graph.Order$1 -/
def ic_graph_Order_1 : ICode :=
 .ops 0 false [⟨some 5, .ld none [] (.t 2), none, false, false, []⟩,
  ⟨some 6, .mv (.t 0), none, false, false, [0]⟩,
  ⟨some 7, .rowView 1 [.t 6], none, false, false, [6]⟩,
  ⟨some 8, .app 1 (.t 5) (.t 7), none, false, false, [5, 7]⟩,
  ⟨none, .st 1 (.t 2) (.t 8), none, false, false, [2, 8]⟩]
def rs_graph_Order_1 : List IRes := []
theorem ok_graph_Order_1 : fnOk Try.prog 76 ic_graph_Order_1 rs_graph_Order_1 9 = true := by kernel_rfl

/-- tallyman/graph.Left$1 -/
def ic_graph_Left_1 : ICode :=
 .skip
def rs_graph_Left_1 : List IRes := []
theorem ok_graph_Left_1 : fnOk Try.prog 79 ic_graph_Left_1 rs_graph_Left_1 4 = true := by kernel_rfl

/-- tallyman/graph.Levels$1 -/
def ic_graph_Levels_1 : ICode :=
 .ops 0 false [⟨some 5, .ld none [] (.t 2), none, false, false, [2]⟩,
  ⟨some 6, .mv (.t 0), none, false, false, [0]⟩,
  ⟨some 7, .mv (.t 1), none, false, false, [1]⟩,
  ⟨none, .mapup (.t 5) (.t 6) (.t 7), none, false, false, [5, 6, 7]⟩]
def rs_graph_Levels_1 : List IRes := []
theorem ok_graph_Levels_1 : fnOk Try.prog 83 ic_graph_Levels_1 rs_graph_Levels_1 8 = true := by kernel_rfl

/-- tallyman/graph.Order -/
def ic_graph_Order : ICode :=
 .seq (.ops 0 false [⟨some 4, .mv (.c (.nils)), none, false, false, [4]⟩,
  ⟨some 5, .mv (.c (.bool false)), none, false, false, [5]⟩])
 (.seq (.ops 1 false [⟨some 6, .alloc [.nils], none, false, false, []⟩])
 (.seq (.ops 2 false [⟨some 8, .mv (.t 0), none, false, false, [0]⟩,
  ⟨some 9, .mv (.t 1), none, false, false, [1]⟩,
  ⟨some 10, .call (.c (.fn 74 [] [])) [.t 8, .t 9], none, false, false, [8, 9]⟩,
  ⟨some 7, .mv (.t 10), none, false, false, [10]⟩])
 (.seq (.ops 3 false [⟨some 11, .mv (.t 7), none, false, false, []⟩,
  ⟨some 12, .mkfn 76 [] [.t 6], none, false, false, []⟩,
  ⟨some 13, .call (.c (.fn 75 [] [])) [.t 11, .t 12], none, false, false, [11, 12, 13]⟩])
 (.seq (.ops 4 true [⟨some 14, .ld none [] (.t 6), none, false, false, []⟩,
  ⟨some 15, .ld none [] (.t 6), none, false, false, [6]⟩,
  ⟨some 16, .len (.t 15), none, false, false, [15]⟩,
  ⟨some 17, .mv (.t 7), none, false, false, [7]⟩,
  ⟨some 18, .nilc (.t 17), none, false, false, [17]⟩,
  ⟨some 19, .fa 0 (.t 18), none, false, false, [18]⟩,
  ⟨some 20, .ld none [] (.t 19), none, false, false, [19]⟩,
  ⟨some 21, .len (.t 20), none, false, false, [20]⟩,
  ⟨some 22, .bin .eql (.t 16) (.t 21), none, false, false, [16, 21]⟩,
  ⟨some 4, .mv (.t 14), none, false, false, [14]⟩,
  ⟨some 5, .mv (.t 22), none, false, false, [22]⟩])
 (.ret)))))
def rs_graph_Order : List IRes := [.t 4, .t 5]
theorem ok_graph_Order : fnOk Try.prog 20 ic_graph_Order rs_graph_Order 23 = true := by kernel_rfl

/-- tallyman/graph.Left -/
def ic_graph_Left : ICode :=
 .seq (.ops 0 false [⟨some 4, .mv (.c (.nils)), none, false, false, [4]⟩])
 (.seq (.ops 1 false [⟨some 5, .mv (.c (.nils)), none, false, false, []⟩])
 (.seq (.ops 2 false [⟨some 9, .mv (.t 0), none, false, false, [0]⟩,
  ⟨some 10, .mv (.t 1), none, false, false, [1]⟩,
  ⟨some 11, .call (.c (.fn 74 [] [])) [.t 9, .t 10], none, false, false, [9, 10]⟩,
  ⟨some 6, .mv (.t 11), none, false, false, [11]⟩])
 (.seq (.ops 3 false [⟨some 12, .mv (.t 6), none, false, false, []⟩,
  ⟨some 13, .call (.c (.fn 75 [] [])) [.t 12, .c (.fn 79 [] [])], none, false, false, [12, 13]⟩])
 (.seq (.seq (.ops 4 false [⟨some 14, .mv (.t 6), none, false, false, []⟩,
  ⟨some 15, .nilc (.t 14), none, false, false, [14]⟩,
  ⟨some 16, .fa 0 (.t 15), none, false, false, [15]⟩,
  ⟨some 17, .ld none [] (.t 16), none, false, false, [16]⟩,
  ⟨some 18, .len (.t 17), none, false, false, []⟩,
  ⟨some 19, .mv (.c (.int .i64 0)), none, false, false, []⟩])
 (.block 0 (.loop [5, 6, 17, 18, 19] (.seq (.ops 5 false [⟨some 20, .bin .lss (.t 19) (.t 18), none, false, false, []⟩])
   (.seq (.cond (.t 20)
    (.skip)
    (.exit 0))
   (.seq (.block 1 (.seq (.ops 6 false [⟨some 21, .ia 1 [.int .i64 0] (.t 17) (.t 19), none, false, false, []⟩,
     ⟨some 22, .ld none [.int .i64 0] (.t 21), none, false, false, [21]⟩,
     ⟨some 8, .mv (.t 22), none, false, false, [22]⟩])
    (.seq (.ops 7 false [⟨some 23, .mv (.t 6), none, false, false, []⟩,
     ⟨some 24, .nilc (.t 23), none, false, false, [23]⟩,
     ⟨some 25, .fa 2 (.t 24), none, false, false, [24]⟩,
     ⟨some 26, .ld none [] (.t 25), none, false, false, [25]⟩,
     ⟨some 27, .mv (.t 8), none, false, false, []⟩,
     ⟨some 28, .look (.int .i64 0) false (.t 26) (.t 27), none, false, false, [26, 27]⟩,
     ⟨some 29, .bin .gtr (.t 28) (.c (.int .i64 0)), none, false, false, [28]⟩])
    (.cond (.t 29)
     (.ops 8 false [⟨some 30, .mv (.t 5), none, false, false, [5]⟩,
      ⟨some 31, .mv (.t 8), none, false, false, [8]⟩,
      ⟨some 32, .rowView 1 [.t 31], none, false, false, [31]⟩,
      ⟨some 33, .app 1 (.t 30) (.t 32), none, false, false, [30, 32]⟩,
      ⟨some 5, .mv (.t 33), none, false, false, [33]⟩])
     (.skip)))))
   (.ops 9 false [⟨some 34, .bin .add (.t 19) (.c (.int .i64 1)), none, false, false, [19]⟩,
    ⟨some 19, .mv (.t 34), none, false, false, [34]⟩])))))))
 (.seq (.ops 10 false [⟨some 35, .mv (.t 5), none, false, false, [5]⟩,
  ⟨some 4, .mv (.t 35), none, false, false, [35]⟩])
 (.ret))))))
def rs_graph_Left : List IRes := [.t 4]
theorem ok_graph_Left : fnOk Try.prog 23 ic_graph_Left rs_graph_Left 36 = true := by kernel_rfl

/-- tallyman/graph.Reach -/
def ic_graph_Reach : ICode :=
 .seq (.ops 0 false [⟨some 6, .mv (.c (.nils)), none, false, false, [6]⟩])
 (.back [7, 8, 9] (.seq (.ops 1 false [⟨some 11, .mv (.t 0), none, false, false, [0]⟩,
   ⟨some 12, .mv (.t 1), none, false, false, [1]⟩,
   ⟨some 13, .call (.c (.fn 74 [] [])) [.t 11, .t 12], none, false, false, [11, 12]⟩,
   ⟨some 7, .mv (.t 13), none, false, false, [13]⟩])
 (.seq (.ops 2 false [⟨some 8, .mv (.c (.nils)), none, false, false, []⟩])
 (.seq (.ops 3 false [⟨some 14, .mv (.t 2), none, false, false, [2]⟩,
   ⟨some 15, .call (.c (.fn 62 [] [])) [.t 14], none, false, false, [14]⟩,
   ⟨some 9, .mv (.t 15), none, false, false, [15]⟩])
 (.label 0)))) 0
  (.seq (.seq (.ops 4 false [⟨some 16, .mv (.t 9), none, false, false, []⟩,
   ⟨some 17, .len (.t 16), none, false, false, [16]⟩,
   ⟨some 18, .bin .eql (.t 17) (.c (.int .i64 0)), none, false, false, [17]⟩])
  (.cond (.t 18)
   (.seq (.ops 5 false [⟨some 19, .mv (.t 8), none, false, false, []⟩,
    ⟨some 20, .call (.c (.fn 80 [] [])) [.t 19], none, false, false, [19, 20]⟩])
   (.seq (.ops 6 false [⟨some 21, .mv (.t 8), none, false, false, [8]⟩,
    ⟨some 6, .mv (.t 21), none, false, false, [21]⟩])
   (.ret)))
   (.skip)))
  (.seq (.ops 7 false [⟨some 22, .mv (.t 9), none, false, false, []⟩,
   ⟨some 23, .ia 1 [.int .i64 0] (.t 22) (.c (.int .i64 0)), none, false, false, [22]⟩,
   ⟨some 24, .ld none [.int .i64 0] (.t 23), none, false, false, [23]⟩,
   ⟨some 10, .mv (.t 24), none, false, false, [24]⟩])
  (.seq (.ops 8 false [⟨some 25, .mv (.t 9), none, false, false, [9]⟩,
   ⟨some 26, .slc 1 (.t 25) (some (.c (.int .i64 1))) none, none, false, false, [25]⟩,
   ⟨some 9, .mv (.t 26), none, false, false, [26]⟩])
  (.seq (.seq (.ops 9 false [⟨some 27, .mv (.t 7), none, false, false, []⟩,
   ⟨some 28, .mv (.t 10), none, false, false, []⟩,
   ⟨some 29, .call (.c (.fn 81 [] [])) [.t 27, .t 28], none, false, false, [27, 28]⟩,
   ⟨some 30, .mv (.t 29), none, false, false, [29]⟩,
   ⟨some 31, .mv (.t 8), (some (30, true)), true, false, []⟩,
   ⟨some 32, .mv (.t 10), (some (30, true)), true, false, []⟩,
   ⟨some 33, .call (.c (.fn 82 [] [])) [.o 31, .o 32], (some (30, true)), true, false, [31, 32]⟩,
   ⟨some 34, .not (.o 33), (some (30, true)), true, false, [33]⟩,
   ⟨some 35, .pick (.t 30) (.t 34) (.c (.bool false)), none, false, false, [30, 34]⟩])
  (.cond (.t 35)
   (.seq (.ops 10 false [⟨some 36, .mv (.t 8), none, false, false, [8]⟩,
    ⟨some 37, .mv (.t 10), none, false, false, []⟩,
    ⟨some 38, .rowView 1 [.t 37], none, false, false, [37]⟩,
    ⟨some 39, .app 1 (.t 36) (.t 38), none, false, false, [36, 38]⟩,
    ⟨some 8, .mv (.t 39), none, false, false, [39]⟩])
   (.ops 11 false [⟨some 40, .mv (.t 9), none, false, false, [9]⟩,
    ⟨some 41, .mv (.t 7), none, false, false, []⟩,
    ⟨some 42, .nilc (.t 41), none, false, false, [41]⟩,
    ⟨some 43, .fa 1 (.t 42), none, false, false, [42]⟩,
    ⟨some 44, .ld none [] (.t 43), none, false, false, [43]⟩,
    ⟨some 45, .mv (.t 10), none, false, false, [10]⟩,
    ⟨some 46, .look (.nils) false (.t 44) (.t 45), none, false, false, [44, 45]⟩,
    ⟨some 47, .app 1 (.t 40) (.t 46), none, false, false, [40, 46]⟩,
    ⟨some 9, .mv (.t 47), none, false, false, [47]⟩]))
   (.skip)))
  (.goto 0))))))
def rs_graph_Reach : List IRes := [.t 6]
theorem ok_graph_Reach : fnOk Try.prog 25 ic_graph_Reach rs_graph_Reach 48 = true := by kernel_rfl

/-- tallyman/graph.Levels -/
def ic_graph_Levels : ICode :=
 .seq (.ops 0 false [⟨some 4, .mv (.c (.nils)), none, false, false, [4]⟩])
 (.seq (.ops 1 false [⟨some 12, .mv (.t 0), none, false, false, [0]⟩,
  ⟨some 13, .mv (.t 1), none, false, false, [1]⟩,
  ⟨some 14, .call (.c (.fn 74 [] [])) [.t 12, .t 13], none, false, false, [12, 13]⟩,
  ⟨some 5, .mv (.t 14), none, false, false, [14]⟩])
 (.seq (.ops 2 false [⟨some 15, .mkmap, none, false, false, []⟩,
  ⟨some 6, .alloc [.nilm], none, false, false, []⟩,
  ⟨none, .st 1 (.t 6) (.t 15), none, false, false, [15]⟩])
 (.seq (.ops 3 false [⟨some 16, .mv (.t 5), none, false, false, []⟩,
  ⟨some 17, .mkfn 83 [] [.t 6], none, false, false, []⟩,
  ⟨some 18, .call (.c (.fn 75 [] [])) [.t 16, .t 17], none, false, false, [16, 17, 18]⟩])
 (.seq (.ops 4 false [⟨some 7, .mv (.c (.nils)), none, false, false, []⟩])
 (.seq (.seq (.ops 5 false [⟨some 19, .mv (.t 5), none, false, false, [5]⟩,
  ⟨some 20, .nilc (.t 19), none, false, false, [19]⟩,
  ⟨some 21, .fa 0 (.t 20), none, false, false, [20]⟩,
  ⟨some 22, .ld none [] (.t 21), none, false, false, [21]⟩,
  ⟨some 23, .len (.t 22), none, false, false, []⟩,
  ⟨some 24, .mv (.c (.int .i64 0)), none, false, false, []⟩])
 (.block 0 (.loop [6, 7, 22, 23, 24] (.seq (.ops 6 false [⟨some 25, .bin .lss (.t 24) (.t 23), none, false, false, []⟩])
   (.seq (.cond (.t 25)
    (.skip)
    (.exit 0))
   (.seq (.block 1 (.seq (.ops 7 false [⟨some 26, .ia 1 [.int .i64 0] (.t 22) (.t 24), none, false, false, []⟩,
     ⟨some 27, .ld none [.int .i64 0] (.t 26), none, false, false, [26]⟩,
     ⟨some 9, .mv (.t 27), none, false, false, [27]⟩])
    (.seq (.ops 8 false [⟨some 29, .ld none [] (.t 6), none, false, false, []⟩,
     ⟨some 30, .mv (.t 9), none, false, false, [9]⟩,
     ⟨some 31, .look (.int .i64 0) true (.t 29) (.t 30), none, false, false, [29, 30]⟩,
     ⟨some 28, .mv (.t 31), none, false, false, [31]⟩,
     ⟨some 32, .ext 0 (.t 28), none, false, false, []⟩,
     ⟨some 33, .ext 1 (.t 28), none, false, false, [28]⟩,
     ⟨some 10, .mv (.t 32), none, false, false, [32]⟩,
     ⟨some 11, .mv (.t 33), none, false, false, [33]⟩])
    (.seq (.seq (.ops 9 false [⟨some 34, .mv (.t 11), none, false, false, [11]⟩,
     ⟨some 35, .not (.t 34), none, false, false, [34]⟩])
    (.cond (.t 35)
     (.ops 10 false [⟨some 10, .mv (.c (.int .i64 (-1))), none, false, false, []⟩])
     (.skip)))
    (.ops 11 false [⟨some 36, .mv (.t 7), none, false, false, [7]⟩,
     ⟨some 37, .mv (.t 10), none, false, false, [10]⟩,
     ⟨some 38, .rowView 1 [.t 37], none, false, false, [37]⟩,
     ⟨some 39, .app 1 (.t 36) (.t 38), none, false, false, [36, 38]⟩,
     ⟨some 7, .mv (.t 39), none, false, false, [39]⟩])))))
   (.ops 12 false [⟨some 40, .bin .add (.t 24) (.c (.int .i64 1)), none, false, false, [24]⟩,
    ⟨some 24, .mv (.t 40), none, false, false, [40]⟩])))))))
 (.seq (.ops 13 false [⟨some 41, .mv (.t 7), none, false, false, [7]⟩,
  ⟨some 4, .mv (.t 41), none, false, false, [41]⟩])
 (.ret)))))))
def rs_graph_Levels : List IRes := [.t 4]
theorem ok_graph_Levels : fnOk Try.prog 27 ic_graph_Levels rs_graph_Levels 42 = true := by kernel_rfl

/-- tallyman/tallymanref16.free -/
def ic_r16_free : ICode :=
 .seq (.ops 0 false [⟨some 8, .mv (.c (.bool false)), none, false, false, [8]⟩])
 (.seq (.seq (.ops 1 false [⟨some 9, .mv (.c (.int .i64 0)), none, false, false, []⟩])
 (.block 0 (.loop [0, 1, 2, 3, 9] (.seq (.seq (.ops 2 false [⟨some 10, .mv (.t 9), none, false, false, []⟩,
    ⟨some 11, .mv (.t 1), none, false, false, []⟩,
    ⟨some 12, .len (.t 11), none, false, false, [11]⟩,
    ⟨some 13, .bin .lss (.t 10) (.t 12), none, false, false, [10, 12]⟩])
   (.cond (.t 13)
    (.skip)
    (.exit 0)))
   (.seq (.block 1 (.seq (.ops 4 false [⟨some 16, .mv (.t 1), none, false, false, []⟩,
     ⟨some 17, .mv (.t 9), none, false, false, []⟩,
     ⟨some 18, .ia 2 [.int .i64 0, .int .i64 0] (.t 16) (.t 17), none, false, false, [16, 17]⟩,
     ⟨some 19, .fa 1 (.t 18), none, false, false, [18]⟩,
     ⟨some 20, .ld none [.int .i64 0, .int .i64 0] (.t 19), none, false, false, [19]⟩,
     ⟨some 21, .mv (.t 3), none, false, false, []⟩,
     ⟨some 22, .bin .eql (.t 20) (.t 21), none, false, false, [20, 21]⟩,
     ⟨some 23, .mv (.t 22), none, false, false, [22]⟩,
     ⟨some 24, .mv (.t 0), (some (23, true)), true, false, []⟩,
     ⟨some 25, .mv (.t 1), (some (23, true)), true, false, []⟩,
     ⟨some 26, .mv (.t 9), (some (23, true)), true, false, []⟩,
     ⟨some 27, .ia 2 [.int .i64 0, .int .i64 0] (.o 25) (.o 26), (some (23, true)), true, false, [25, 26]⟩,
     ⟨some 28, .fa 0 (.o 27), (some (23, true)), true, false, [27]⟩,
     ⟨some 29, .ld none [.int .i64 0, .int .i64 0] (.o 28), (some (23, true)), true, false, [28]⟩,
     ⟨some 30, .call (.c (.fn 77 [] [])) [.o 24, .o 29], (some (23, true)), true, false, [24, 29]⟩,
     ⟨some 31, .pick (.t 23) (.t 30) (.c (.bool false)), none, false, false, [23, 30]⟩,
     ⟨some 32, .mv (.t 31), none, false, false, [31]⟩,
     ⟨some 33, .mv (.t 2), (some (32, true)), true, false, []⟩,
     ⟨some 34, .mv (.t 1), (some (32, true)), true, false, []⟩,
     ⟨some 35, .mv (.t 9), (some (32, true)), true, false, []⟩,
     ⟨some 36, .ia 2 [.int .i64 0, .int .i64 0] (.o 34) (.o 35), (some (32, true)), true, false, [34, 35]⟩,
     ⟨some 37, .fa 0 (.o 36), (some (32, true)), true, false, [36]⟩,
     ⟨some 38, .ld none [.int .i64 0, .int .i64 0] (.o 37), (some (32, true)), true, false, [37]⟩,
     ⟨some 39, .call (.c (.fn 77 [] [])) [.o 33, .o 38], (some (32, true)), true, false, [33, 38]⟩,
     ⟨some 40, .not (.o 39), (some (32, true)), true, false, [39]⟩,
     ⟨some 41, .pick (.t 32) (.t 40) (.c (.bool false)), none, false, false, [32, 40]⟩])
    (.cond (.t 41)
     (.seq (.ops 5 false [⟨some 8, .mv (.c (.bool false)), none, false, false, []⟩])
     (.ret))
     (.skip))))
   (.ops 3 false [⟨some 14, .mv (.t 9), none, false, false, [9]⟩,
    ⟨some 15, .bin .add (.t 14) (.c (.int .i64 1)), none, false, false, [14]⟩,
    ⟨some 9, .mv (.t 15), none, false, false, [15]⟩]))))))
 (.seq (.ops 6 false [⟨some 8, .mv (.c (.bool true)), none, false, false, []⟩])
 (.ret)))
def rs_r16_free : List IRes := [.t 8]
theorem ok_r16_free : fnOk Try.prog 78 ic_r16_free rs_r16_free 42 = true := by kernel_rfl

/-- tallyman/tallymanref16.Order -/
def ic_r16_Order : ICode :=
 .seq (.ops 0 false [⟨some 4, .mv (.c (.nils)), none, false, false, [4]⟩,
  ⟨some 5, .mv (.c (.bool false)), none, false, false, [5]⟩])
 (.seq (.ops 1 false [⟨some 9, .mv (.t 0), none, false, false, [0]⟩,
  ⟨some 10, .call (.c (.fn 29 [] [])) [.t 9], none, false, false, [9]⟩,
  ⟨some 6, .mv (.t 10), none, false, false, [10]⟩])
 (.seq (.ops 2 false [⟨some 7, .mv (.c (.nils)), none, false, false, []⟩])
 (.seq (.seq (.ops 3 false [⟨some 8, .mv (.c (.int .i64 0)), none, false, false, []⟩])
 (.block 0 (.loop [1, 6, 7, 8] (.seq (.seq (.ops 4 false [⟨some 11, .mv (.t 8), none, false, false, []⟩,
    ⟨some 12, .mv (.t 6), none, false, false, []⟩,
    ⟨some 13, .len (.t 12), none, false, false, [12]⟩,
    ⟨some 14, .bin .lss (.t 11) (.t 13), none, false, false, [11, 13]⟩])
   (.cond (.t 14)
    (.skip)
    (.exit 0)))
   (.block 1 (.seq (.seq (.ops 5 false [⟨some 15, .mv (.t 7), none, false, false, []⟩,
     ⟨some 16, .mv (.t 6), none, false, false, []⟩,
     ⟨some 17, .mv (.t 8), none, false, false, []⟩,
     ⟨some 18, .ia 1 [.int .i64 0] (.t 16) (.t 17), none, false, false, [16, 17]⟩,
     ⟨some 19, .ld none [.int .i64 0] (.t 18), none, false, false, [18]⟩,
     ⟨some 20, .call (.c (.fn 77 [] [])) [.t 15, .t 19], none, false, false, [15, 19]⟩,
     ⟨some 21, .mv (.t 20), none, false, false, [20]⟩,
     ⟨some 22, .mv (.t 6), (some (21, false)), true, false, []⟩,
     ⟨some 23, .mv (.t 1), (some (21, false)), true, false, []⟩,
     ⟨some 24, .mv (.t 7), (some (21, false)), true, false, []⟩,
     ⟨some 25, .mv (.t 6), (some (21, false)), true, false, []⟩,
     ⟨some 26, .mv (.t 8), (some (21, false)), true, false, []⟩,
     ⟨some 27, .ia 1 [.int .i64 0] (.o 25) (.o 26), (some (21, false)), true, false, [25, 26]⟩,
     ⟨some 28, .ld none [.int .i64 0] (.o 27), (some (21, false)), true, false, [27]⟩,
     ⟨some 29, .call (.c (.fn 78 [] [])) [.o 22, .o 23, .o 24, .o 28], (some (21, false)), true, false, [22, 23, 24, 28]⟩,
     ⟨some 30, .not (.o 29), (some (21, false)), true, false, [29]⟩,
     ⟨some 31, .pick (.t 21) (.c (.bool true)) (.t 30), none, false, false, [21, 30]⟩])
    (.cond (.t 31)
     (.seq (.ops 6 false [⟨some 32, .mv (.t 8), none, false, false, [8]⟩,
      ⟨some 33, .bin .add (.t 32) (.c (.int .i64 1)), none, false, false, [32]⟩,
      ⟨some 8, .mv (.t 33), none, false, false, [33]⟩])
     (.exit 1))
     (.skip)))
    (.seq (.ops 7 false [⟨some 34, .mv (.t 7), none, false, false, [7]⟩,
     ⟨some 35, .mv (.t 6), none, false, false, []⟩,
     ⟨some 36, .mv (.t 8), none, false, false, [8]⟩,
     ⟨some 37, .ia 1 [.int .i64 0] (.t 35) (.t 36), none, false, false, [35, 36]⟩,
     ⟨some 38, .ld none [.int .i64 0] (.t 37), none, false, false, [37]⟩,
     ⟨some 39, .rowView 1 [.t 38], none, false, false, [38]⟩,
     ⟨some 40, .app 1 (.t 34) (.t 39), none, false, false, [34, 39]⟩,
     ⟨some 7, .mv (.t 40), none, false, false, [40]⟩])
    (.ops 8 false [⟨some 8, .mv (.c (.int .i64 0)), none, false, false, []⟩]))))))))
 (.seq (.ops 9 false [⟨some 41, .mv (.t 7), none, false, false, []⟩,
  ⟨some 42, .mv (.t 7), none, false, false, [7]⟩,
  ⟨some 43, .len (.t 42), none, false, false, [42]⟩,
  ⟨some 44, .mv (.t 6), none, false, false, [6]⟩,
  ⟨some 45, .len (.t 44), none, false, false, [44]⟩,
  ⟨some 46, .bin .eql (.t 43) (.t 45), none, false, false, [43, 45]⟩,
  ⟨some 4, .mv (.t 41), none, false, false, [41]⟩,
  ⟨some 5, .mv (.t 46), none, false, false, [46]⟩])
 (.ret)))))
def rs_r16_Order : List IRes := [.t 4, .t 5]
theorem ok_r16_Order : fnOk Try.prog 21 ic_r16_Order rs_r16_Order 47 = true := by kernel_rfl

/-- tallyman/tallymanref16.Left -/
def ic_r16_Left : ICode :=
 .seq (.ops 0 false [⟨some 4, .mv (.c (.nils)), none, false, false, [4]⟩])
 (.seq (.ops 1 false [⟨some 10, .mv (.t 0), none, false, false, []⟩,
  ⟨some 11, .call (.c (.fn 29 [] [])) [.t 10], none, false, false, [10]⟩,
  ⟨some 5, .mv (.t 11), none, false, false, [11]⟩])
 (.seq (.ops 2 false [⟨some 13, .mv (.t 0), none, false, false, [0]⟩,
  ⟨some 14, .mv (.t 1), none, false, false, [1]⟩,
  ⟨some 15, .call (.c (.fn 21 [] [])) [.t 13, .t 14], none, false, false, [13, 14]⟩,
  ⟨some 12, .mv (.t 15), none, false, false, [15]⟩,
  ⟨some 16, .ext 0 (.t 12), none, false, false, []⟩,
  ⟨some 17, .ext 1 (.t 12), none, false, false, [12]⟩,
  ⟨some 6, .mv (.t 16), none, false, false, [16]⟩,
  ⟨some 7, .mv (.t 17), none, false, false, [7, 17]⟩])
 (.seq (.ops 3 false [⟨some 8, .mv (.c (.nils)), none, false, false, []⟩])
 (.seq (.seq (.ops 4 false [⟨some 9, .mv (.c (.int .i64 0)), none, false, false, []⟩])
 (.block 0 (.loop [5, 6, 8, 9] (.seq (.seq (.ops 5 false [⟨some 18, .mv (.t 9), none, false, false, []⟩,
    ⟨some 19, .mv (.t 5), none, false, false, []⟩,
    ⟨some 20, .len (.t 19), none, false, false, [19]⟩,
    ⟨some 21, .bin .lss (.t 18) (.t 20), none, false, false, [18, 20]⟩])
   (.cond (.t 21)
    (.skip)
    (.exit 0)))
   (.seq (.block 1 (.seq (.ops 7 false [⟨some 24, .mv (.t 6), none, false, false, []⟩,
     ⟨some 25, .mv (.t 5), none, false, false, []⟩,
     ⟨some 26, .mv (.t 9), none, false, false, []⟩,
     ⟨some 27, .ia 1 [.int .i64 0] (.t 25) (.t 26), none, false, false, [25, 26]⟩,
     ⟨some 28, .ld none [.int .i64 0] (.t 27), none, false, false, [27]⟩,
     ⟨some 29, .call (.c (.fn 77 [] [])) [.t 24, .t 28], none, false, false, [24, 28]⟩,
     ⟨some 30, .not (.t 29), none, false, false, [29]⟩])
    (.cond (.t 30)
     (.ops 8 false [⟨some 31, .mv (.t 8), none, false, false, [8]⟩,
      ⟨some 32, .mv (.t 5), none, false, false, []⟩,
      ⟨some 33, .mv (.t 9), none, false, false, []⟩,
      ⟨some 34, .ia 1 [.int .i64 0] (.t 32) (.t 33), none, false, false, [32, 33]⟩,
      ⟨some 35, .ld none [.int .i64 0] (.t 34), none, false, false, [34]⟩,
      ⟨some 36, .rowView 1 [.t 35], none, false, false, [35]⟩,
      ⟨some 37, .app 1 (.t 31) (.t 36), none, false, false, [31, 36]⟩,
      ⟨some 8, .mv (.t 37), none, false, false, [37]⟩])
     (.skip))))
   (.ops 6 false [⟨some 22, .mv (.t 9), none, false, false, [9]⟩,
    ⟨some 23, .bin .add (.t 22) (.c (.int .i64 1)), none, false, false, [22]⟩,
    ⟨some 9, .mv (.t 23), none, false, false, [23]⟩]))))))
 (.seq (.ops 9 false [⟨some 38, .mv (.t 8), none, false, false, [8]⟩,
  ⟨some 4, .mv (.t 38), none, false, false, [38]⟩])
 (.ret))))))
def rs_r16_Left : List IRes := [.t 4]
theorem ok_r16_Left : fnOk Try.prog 24 ic_r16_Left rs_r16_Left 39 = true := by kernel_rfl

/-- tallyman/tallymanref16.Reach -/
def ic_r16_Reach : ICode :=
 .seq (.ops 0 false [⟨some 6, .mv (.c (.nils)), none, false, false, [6]⟩])
 (.seq (.ops 1 false [⟨some 12, .mv (.t 0), none, false, false, [0]⟩,
  ⟨some 13, .call (.c (.fn 29 [] [])) [.t 12], none, false, false, [12]⟩,
  ⟨some 7, .mv (.t 13), none, false, false, [13]⟩])
 (.seq (.ops 2 false [⟨some 8, .mv (.c (.nils)), none, false, false, []⟩])
 (.seq (.seq (.ops 3 false [⟨some 9, .mv (.c (.int .i64 0)), none, false, false, []⟩])
 (.block 0 (.loop [1, 2, 7, 8, 9] (.seq (.seq (.ops 4 false [⟨some 14, .mv (.t 9), none, false, false, []⟩,
    ⟨some 15, .mv (.t 7), none, false, false, []⟩,
    ⟨some 16, .len (.t 15), none, false, false, [15]⟩,
    ⟨some 17, .bin .lss (.t 14) (.t 16), none, false, false, [14, 16]⟩])
   (.cond (.t 17)
    (.skip)
    (.exit 0)))
   (.seq (.block 1 (.seq (.ops 6 false [⟨some 20, .mv (.t 2), none, false, false, []⟩,
     ⟨some 21, .mv (.t 7), none, false, false, []⟩,
     ⟨some 22, .mv (.t 9), none, false, false, []⟩,
     ⟨some 23, .ia 1 [.int .i64 0] (.t 21) (.t 22), none, false, false, [21, 22]⟩,
     ⟨some 24, .ld none [.int .i64 0] (.t 23), none, false, false, [23]⟩,
     ⟨some 25, .call (.c (.fn 77 [] [])) [.t 20, .t 24], none, false, false, [20, 24]⟩])
    (.cond (.t 25)
     (.ops 7 false [⟨some 26, .mv (.t 8), none, false, false, [8]⟩,
      ⟨some 27, .mv (.t 7), none, false, false, []⟩,
      ⟨some 28, .mv (.t 9), none, false, false, []⟩,
      ⟨some 29, .ia 1 [.int .i64 0] (.t 27) (.t 28), none, false, false, [27, 28]⟩,
      ⟨some 30, .ld none [.int .i64 0] (.t 29), none, false, false, [29]⟩,
      ⟨some 31, .rowView 1 [.t 30], none, false, false, [30]⟩,
      ⟨some 32, .app 1 (.t 26) (.t 31), none, false, false, [26, 31]⟩,
      ⟨some 8, .mv (.t 32), none, false, false, [32]⟩])
     (.skip))))
   (.ops 5 false [⟨some 18, .mv (.t 9), none, false, false, [9]⟩,
    ⟨some 19, .bin .add (.t 18) (.c (.int .i64 1)), none, false, false, [18]⟩,
    ⟨some 9, .mv (.t 19), none, false, false, [19]⟩]))))))
 (.seq (.seq (.ops 8 false [⟨some 10, .mv (.c (.int .i64 0)), none, false, false, []⟩])
 (.block 2 (.loop [1, 7, 8, 10] (.seq (.seq (.ops 9 false [⟨some 33, .mv (.t 10), none, false, false, []⟩,
    ⟨some 34, .mv (.t 7), none, false, false, []⟩,
    ⟨some 35, .len (.t 34), none, false, false, [34]⟩,
    ⟨some 36, .bin .lss (.t 33) (.t 35), none, false, false, [33, 35]⟩])
   (.cond (.t 36)
    (.skip)
    (.exit 2)))
   (.seq (.block 3 (.seq (.ops 11 false [⟨some 11, .mv (.c (.int .i64 0)), none, false, false, []⟩])
    (.block 4 (.loop [1, 7, 8, 10, 11] (.seq (.seq (.ops 12 false [⟨some 39, .mv (.t 11), none, false, false, []⟩,
       ⟨some 40, .mv (.t 1), none, false, false, []⟩,
       ⟨some 41, .len (.t 40), none, false, false, [40]⟩,
       ⟨some 42, .bin .lss (.t 39) (.t 41), none, false, false, [39, 41]⟩])
      (.cond (.t 42)
       (.skip)
       (.exit 4)))
      (.seq (.block 5 (.seq (.ops 14 false [⟨some 45, .mv (.t 8), none, false, false, []⟩,
        ⟨some 46, .mv (.t 1), none, false, false, []⟩,
        ⟨some 47, .mv (.t 11), none, false, false, []⟩,
        ⟨some 48, .ia 2 [.int .i64 0, .int .i64 0] (.t 46) (.t 47), none, false, false, [46, 47]⟩,
        ⟨some 49, .fa 0 (.t 48), none, false, false, [48]⟩,
        ⟨some 50, .ld none [.int .i64 0, .int .i64 0] (.t 49), none, false, false, [49]⟩,
        ⟨some 51, .call (.c (.fn 77 [] [])) [.t 45, .t 50], none, false, false, [45, 50]⟩,
        ⟨some 52, .mv (.t 51), none, false, false, [51]⟩,
        ⟨some 53, .mv (.t 7), (some (52, true)), true, false, []⟩,
        ⟨some 54, .mv (.t 1), (some (52, true)), true, false, []⟩,
        ⟨some 55, .mv (.t 11), (some (52, true)), true, false, []⟩,
        ⟨some 56, .ia 2 [.int .i64 0, .int .i64 0] (.o 54) (.o 55), (some (52, true)), true, false, [54, 55]⟩,
        ⟨some 57, .fa 1 (.o 56), (some (52, true)), true, false, [56]⟩,
        ⟨some 58, .ld none [.int .i64 0, .int .i64 0] (.o 57), (some (52, true)), true, false, [57]⟩,
        ⟨some 59, .call (.c (.fn 77 [] [])) [.o 53, .o 58], (some (52, true)), true, false, [53, 58]⟩,
        ⟨some 60, .pick (.t 52) (.t 59) (.c (.bool false)), none, false, false, [52, 59]⟩,
        ⟨some 61, .mv (.t 60), none, false, false, [60]⟩,
        ⟨some 62, .mv (.t 8), (some (61, true)), true, false, []⟩,
        ⟨some 63, .mv (.t 1), (some (61, true)), true, false, []⟩,
        ⟨some 64, .mv (.t 11), (some (61, true)), true, false, []⟩,
        ⟨some 65, .ia 2 [.int .i64 0, .int .i64 0] (.o 63) (.o 64), (some (61, true)), true, false, [63, 64]⟩,
        ⟨some 66, .fa 1 (.o 65), (some (61, true)), true, false, [65]⟩,
        ⟨some 67, .ld none [.int .i64 0, .int .i64 0] (.o 66), (some (61, true)), true, false, [66]⟩,
        ⟨some 68, .call (.c (.fn 77 [] [])) [.o 62, .o 67], (some (61, true)), true, false, [62, 67]⟩,
        ⟨some 69, .not (.o 68), (some (61, true)), true, false, [68]⟩,
        ⟨some 70, .pick (.t 61) (.t 69) (.c (.bool false)), none, false, false, [61, 69]⟩])
       (.cond (.t 70)
        (.ops 15 false [⟨some 71, .mv (.t 8), none, false, false, [8]⟩,
         ⟨some 72, .mv (.t 1), none, false, false, []⟩,
         ⟨some 73, .mv (.t 11), none, false, false, []⟩,
         ⟨some 74, .ia 2 [.int .i64 0, .int .i64 0] (.t 72) (.t 73), none, false, false, [72, 73]⟩,
         ⟨some 75, .fa 1 (.t 74), none, false, false, [74]⟩,
         ⟨some 76, .ld none [.int .i64 0, .int .i64 0] (.t 75), none, false, false, [75]⟩,
         ⟨some 77, .rowView 1 [.t 76], none, false, false, [76]⟩,
         ⟨some 78, .app 1 (.t 71) (.t 77), none, false, false, [71, 77]⟩,
         ⟨some 8, .mv (.t 78), none, false, false, [78]⟩])
        (.skip))))
      (.ops 13 false [⟨some 43, .mv (.t 11), none, false, false, [11]⟩,
       ⟨some 44, .bin .add (.t 43) (.c (.int .i64 1)), none, false, false, [43]⟩,
       ⟨some 11, .mv (.t 44), none, false, false, [44]⟩])))))))
   (.ops 10 false [⟨some 37, .mv (.t 10), none, false, false, [10]⟩,
    ⟨some 38, .bin .add (.t 37) (.c (.int .i64 1)), none, false, false, [37]⟩,
    ⟨some 10, .mv (.t 38), none, false, false, [38]⟩]))))))
 (.seq (.ops 16 false [⟨some 79, .mv (.t 8), none, false, false, [8]⟩,
  ⟨some 80, .call (.c (.fn 29 [] [])) [.t 79], none, false, false, [79]⟩,
  ⟨some 6, .mv (.t 80), none, false, false, [80]⟩])
 (.ret))))))
def rs_r16_Reach : List IRes := [.t 6]
theorem ok_r16_Reach : fnOk Try.prog 26 ic_r16_Reach rs_r16_Reach 81 = true := by kernel_rfl

/-- tallyman/tallymanref16.Levels -/
def ic_r16_Levels : ICode :=
 .seq (.ops 0 false [⟨some 4, .mv (.c (.nils)), none, false, false, [4]⟩])
 (.seq (.ops 1 false [⟨some 16, .mv (.t 0), none, false, false, []⟩,
  ⟨some 17, .call (.c (.fn 29 [] [])) [.t 16], none, false, false, [16]⟩,
  ⟨some 5, .mv (.t 17), none, false, false, [17]⟩])
 (.seq (.ops 2 false [⟨some 19, .mv (.t 0), none, false, false, [0]⟩,
  ⟨some 20, .mv (.t 1), none, false, false, []⟩,
  ⟨some 21, .call (.c (.fn 21 [] [])) [.t 19, .t 20], none, false, false, [19, 20]⟩,
  ⟨some 18, .mv (.t 21), none, false, false, [21]⟩,
  ⟨some 22, .ext 0 (.t 18), none, false, false, []⟩,
  ⟨some 23, .ext 1 (.t 18), none, false, false, [18]⟩,
  ⟨some 6, .mv (.t 22), none, false, false, [22]⟩,
  ⟨some 7, .mv (.t 23), none, false, false, [7, 23]⟩])
 (.seq (.ops 3 false [⟨some 24, .mv (.t 6), none, false, false, []⟩,
  ⟨some 25, .len (.t 24), none, false, false, [24]⟩,
  ⟨some 26, .mkslice 1 [.int .i64 0] (.t 25) (.t 25), none, false, false, [25]⟩,
  ⟨some 8, .mv (.t 26), none, false, false, [26]⟩])
 (.seq (.seq (.ops 4 false [⟨some 9, .mv (.c (.int .i64 0)), none, false, false, []⟩])
 (.block 0 (.loop [1, 5, 6, 8, 9] (.seq (.seq (.ops 5 false [⟨some 27, .mv (.t 9), none, false, false, []⟩,
    ⟨some 28, .mv (.t 6), none, false, false, []⟩,
    ⟨some 29, .len (.t 28), none, false, false, [28]⟩,
    ⟨some 30, .bin .lss (.t 27) (.t 29), none, false, false, [27, 29]⟩])
   (.cond (.t 30)
    (.skip)
    (.exit 0)))
   (.seq (.block 1 (.seq (.ops 7 false [⟨some 10, .mv (.c (.int .i64 0)), none, false, false, []⟩])
    (.block 2 (.loop [1, 5, 6, 8, 9, 10] (.seq (.seq (.ops 8 false [⟨some 33, .mv (.t 10), none, false, false, []⟩,
       ⟨some 34, .mv (.t 9), none, false, false, []⟩,
       ⟨some 35, .bin .lss (.t 33) (.t 34), none, false, false, [33, 34]⟩])
      (.cond (.t 35)
       (.skip)
       (.exit 2)))
      (.seq (.block 3 (.seq (.ops 10 false [⟨some 11, .mv (.c (.int .i64 0)), none, false, false, []⟩])
       (.block 4 (.loop [1, 5, 6, 8, 9, 10, 11] (.seq (.seq (.ops 11 false [⟨some 38, .mv (.t 11), none, false, false, []⟩,
          ⟨some 39, .mv (.t 1), none, false, false, []⟩,
          ⟨some 40, .len (.t 39), none, false, false, [39]⟩,
          ⟨some 41, .bin .lss (.t 38) (.t 40), none, false, false, [38, 40]⟩])
         (.cond (.t 41)
          (.skip)
          (.exit 4)))
         (.seq (.block 5 (.seq (.ops 13 true [⟨some 44, .mv (.t 1), none, false, false, []⟩,
           ⟨some 45, .mv (.t 11), none, false, false, []⟩,
           ⟨some 46, .ia 2 [.int .i64 0, .int .i64 0] (.t 44) (.t 45), none, false, false, [44, 45]⟩,
           ⟨some 47, .fa 0 (.t 46), none, false, false, [46]⟩,
           ⟨some 48, .ld none [.int .i64 0, .int .i64 0] (.t 47), none, false, false, [47]⟩,
           ⟨some 49, .mv (.t 6), none, false, false, []⟩,
           ⟨some 50, .mv (.t 10), none, false, false, []⟩,
           ⟨some 51, .ia 1 [.int .i64 0] (.t 49) (.t 50), none, false, false, [49, 50]⟩,
           ⟨some 52, .ld none [.int .i64 0] (.t 51), none, false, false, [51]⟩,
           ⟨some 53, .bin .eql (.t 48) (.t 52), none, false, false, [48, 52]⟩,
           ⟨some 54, .mv (.t 53), none, false, false, [53]⟩,
           ⟨some 55, .mv (.t 1), (some (54, true)), true, false, []⟩,
           ⟨some 56, .mv (.t 11), (some (54, true)), true, false, []⟩,
           ⟨some 57, .ia 2 [.int .i64 0, .int .i64 0] (.o 55) (.o 56), (some (54, true)), true, false, [55, 56]⟩,
           ⟨some 58, .fa 1 (.o 57), (some (54, true)), true, false, [57]⟩,
           ⟨some 59, .ld none [.int .i64 0, .int .i64 0] (.o 58), (some (54, true)), true, false, [58]⟩,
           ⟨some 60, .mv (.t 6), (some (54, true)), true, false, []⟩,
           ⟨some 61, .mv (.t 9), (some (54, true)), true, false, []⟩,
           ⟨some 62, .ia 1 [.int .i64 0] (.o 60) (.o 61), (some (54, true)), true, false, [60, 61]⟩,
           ⟨some 63, .ld none [.int .i64 0] (.o 62), (some (54, true)), true, false, [62]⟩,
           ⟨some 64, .bin .eql (.o 59) (.o 63), (some (54, true)), true, false, [59, 63]⟩,
           ⟨some 65, .pick (.t 54) (.t 64) (.c (.bool false)), none, false, false, [54, 64]⟩])
          (.cond (.t 65)
           (.ops 14 true [⟨some 66, .mv (.t 8), none, false, false, []⟩,
            ⟨some 67, .mv (.t 9), none, false, false, []⟩,
            ⟨some 68, .mv (.t 8), none, false, false, []⟩,
            ⟨some 69, .mv (.t 9), none, false, false, []⟩,
            ⟨some 70, .ia 1 [.int .i64 0] (.t 68) (.t 69), none, false, false, [68, 69]⟩,
            ⟨some 71, .ld none [.int .i64 0] (.t 70), none, false, false, [70]⟩,
            ⟨some 72, .mv (.t 8), none, false, false, []⟩,
            ⟨some 73, .mv (.t 10), none, false, false, []⟩,
            ⟨some 74, .ia 1 [.int .i64 0] (.t 72) (.t 73), none, false, false, [72, 73]⟩,
            ⟨some 75, .ld none [.int .i64 0] (.t 74), none, false, false, [74]⟩,
            ⟨some 76, .bin .add (.t 75) (.c (.int .i64 1)), none, false, false, [75]⟩,
            ⟨some 77, .mx [.t 71, .t 76], none, false, false, [71, 76]⟩,
            ⟨some 78, .ia 1 [.int .i64 0] (.t 66) (.t 67), none, false, false, [66, 67]⟩,
            ⟨none, .st 1 (.t 78) (.t 77), none, false, false, [77, 78]⟩])
           (.skip))))
         (.ops 12 false [⟨some 42, .mv (.t 11), none, false, false, [11]⟩,
          ⟨some 43, .bin .add (.t 42) (.c (.int .i64 1)), none, false, false, [42]⟩,
          ⟨some 11, .mv (.t 43), none, false, false, [43]⟩])))))))
      (.ops 9 false [⟨some 36, .mv (.t 10), none, false, false, [10]⟩,
       ⟨some 37, .bin .add (.t 36) (.c (.int .i64 1)), none, false, false, [36]⟩,
       ⟨some 10, .mv (.t 37), none, false, false, [37]⟩])))))))
   (.ops 6 false [⟨some 31, .mv (.t 9), none, false, false, [9]⟩,
    ⟨some 32, .bin .add (.t 31) (.c (.int .i64 1)), none, false, false, [31]⟩,
    ⟨some 9, .mv (.t 32), none, false, false, [32]⟩]))))))
 (.seq (.ops 15 false [⟨some 12, .mv (.c (.nils)), none, false, false, []⟩])
 (.seq (.seq (.ops 16 false [⟨some 13, .mv (.c (.int .i64 0)), none, false, false, []⟩])
 (.block 6 (.loop [5, 6, 8, 12, 13] (.seq (.seq (.ops 17 false [⟨some 79, .mv (.t 13), none, false, false, []⟩,
    ⟨some 80, .mv (.t 5), none, false, false, []⟩,
    ⟨some 81, .len (.t 80), none, false, false, [80]⟩,
    ⟨some 82, .bin .lss (.t 79) (.t 81), none, false, false, [79, 81]⟩])
   (.cond (.t 82)
    (.skip)
    (.exit 6)))
   (.seq (.block 7 (.seq (.ops 19 false [⟨some 14, .mv (.c (.int .i64 (-1))), none, false, false, []⟩])
    (.seq (.seq (.ops 20 false [⟨some 15, .mv (.c (.int .i64 0)), none, false, false, []⟩])
    (.block 8 (.loop [5, 6, 8, 12, 13, 14, 15] (.seq (.seq (.ops 21 false [⟨some 85, .mv (.t 15), none, false, false, []⟩,
       ⟨some 86, .mv (.t 6), none, false, false, []⟩,
       ⟨some 87, .len (.t 86), none, false, false, [86]⟩,
       ⟨some 88, .bin .lss (.t 85) (.t 87), none, false, false, [85, 87]⟩])
      (.cond (.t 88)
       (.skip)
       (.exit 8)))
      (.seq (.block 9 (.seq (.ops 23 true [⟨some 91, .mv (.t 6), none, false, false, []⟩,
        ⟨some 92, .mv (.t 15), none, false, false, []⟩,
        ⟨some 93, .ia 1 [.int .i64 0] (.t 91) (.t 92), none, false, false, [91, 92]⟩,
        ⟨some 94, .ld none [.int .i64 0] (.t 93), none, false, false, [93]⟩,
        ⟨some 95, .mv (.t 5), none, false, false, []⟩,
        ⟨some 96, .mv (.t 13), none, false, false, []⟩,
        ⟨some 97, .ia 1 [.int .i64 0] (.t 95) (.t 96), none, false, false, [95, 96]⟩,
        ⟨some 98, .ld none [.int .i64 0] (.t 97), none, false, false, [97]⟩,
        ⟨some 99, .bin .eql (.t 94) (.t 98), none, false, false, [94, 98]⟩])
       (.cond (.t 99)
        (.ops 24 false [⟨some 100, .mv (.t 8), none, false, false, []⟩,
         ⟨some 101, .mv (.t 15), none, false, false, []⟩,
         ⟨some 102, .ia 1 [.int .i64 0] (.t 100) (.t 101), none, false, false, [100, 101]⟩,
         ⟨some 103, .ld none [.int .i64 0] (.t 102), none, false, false, [102]⟩,
         ⟨some 14, .mv (.t 103), none, false, false, [103]⟩])
        (.skip))))
      (.ops 22 false [⟨some 89, .mv (.t 15), none, false, false, [15]⟩,
       ⟨some 90, .bin .add (.t 89) (.c (.int .i64 1)), none, false, false, [89]⟩,
       ⟨some 15, .mv (.t 90), none, false, false, [90]⟩]))))))
    (.ops 25 false [⟨some 104, .mv (.t 12), none, false, false, [12]⟩,
     ⟨some 105, .mv (.t 14), none, false, false, [14]⟩,
     ⟨some 106, .rowView 1 [.t 105], none, false, false, [105]⟩,
     ⟨some 107, .app 1 (.t 104) (.t 106), none, false, false, [104, 106]⟩,
     ⟨some 12, .mv (.t 107), none, false, false, [107]⟩]))))
   (.ops 18 false [⟨some 83, .mv (.t 13), none, false, false, [13]⟩,
    ⟨some 84, .bin .add (.t 83) (.c (.int .i64 1)), none, false, false, [83]⟩,
    ⟨some 13, .mv (.t 84), none, false, false, [84]⟩]))))))
 (.seq (.ops 26 false [⟨some 108, .mv (.t 12), none, false, false, [12]⟩,
  ⟨some 4, .mv (.t 108), none, false, false, [108]⟩])
 (.ret))))))))
def rs_r16_Levels : List IRes := [.t 4]
theorem ok_r16_Levels : fnOk Try.prog 28 ic_r16_Levels rs_r16_Levels 109 = true := by kernel_rfl

/-- tallyman/tallymanlaw16.few -/
def ic_l16_few : ICode :=
 .seq (.ops 0 false [⟨some 4, .mv (.c (.bool false)), none, false, false, [4]⟩])
 (.seq (.ops 1 false [⟨some 5, .mv (.t 0), none, false, false, [0]⟩,
  ⟨some 6, .len (.t 5), none, false, false, [5]⟩,
  ⟨some 7, .bin .leq (.t 6) (.c (.int .i64 30)), none, false, false, [6]⟩,
  ⟨some 8, .mv (.t 7), none, false, false, [7]⟩,
  ⟨some 9, .mv (.t 1), (some (8, true)), true, false, [1]⟩,
  ⟨some 10, .len (.o 9), (some (8, true)), true, false, [9]⟩,
  ⟨some 11, .bin .leq (.o 10) (.c (.int .i64 60)), (some (8, true)), true, false, [10]⟩,
  ⟨some 12, .pick (.t 8) (.t 11) (.c (.bool false)), none, false, false, [8, 11]⟩,
  ⟨some 4, .mv (.t 12), none, false, false, [12]⟩])
 (.ret))
def rs_l16_few : List IRes := [.t 4]
theorem ok_l16_few : fnOk Try.prog 18 ic_l16_few rs_l16_few 13 = true := by kernel_rfl

/-- tallyman/tallymanlaw16.place -/
def ic_l16_place : ICode :=
 .seq (.ops 0 false [⟨some 4, .mv (.c (.int .i64 0)), none, false, false, [4]⟩])
 (.seq (.seq (.ops 1 false [⟨some 7, .mv (.t 0), none, false, false, [0]⟩,
  ⟨some 8, .len (.t 7), none, false, false, []⟩,
  ⟨some 9, .mv (.c (.int .i64 0)), none, false, false, []⟩])
 (.block 0 (.loop [1, 7, 8, 9] (.seq (.ops 2 false [⟨some 10, .bin .lss (.t 9) (.t 8), none, false, false, []⟩])
   (.seq (.cond (.t 10)
    (.skip)
    (.exit 0))
   (.seq (.block 1 (.seq (.ops 3 false [⟨some 11, .mv (.t 9), none, false, false, []⟩,
     ⟨some 12, .ia 1 [.int .i64 0] (.t 7) (.t 9), none, false, false, []⟩,
     ⟨some 13, .ld none [.int .i64 0] (.t 12), none, false, false, [12]⟩,
     ⟨some 5, .mv (.t 11), none, false, false, [11]⟩,
     ⟨some 6, .mv (.t 13), none, false, false, [13]⟩])
    (.seq (.ops 4 false [⟨some 14, .mv (.t 6), none, false, false, [6]⟩,
     ⟨some 15, .mv (.t 1), none, false, false, []⟩,
     ⟨some 16, .bin .eql (.t 14) (.t 15), none, false, false, [14, 15]⟩])
    (.cond (.t 16)
     (.seq (.ops 5 false [⟨some 17, .mv (.t 5), none, false, false, [5]⟩,
      ⟨some 4, .mv (.t 17), none, false, false, [17]⟩])
     (.ret))
     (.skip)))))
   (.ops 6 false [⟨some 18, .bin .add (.t 9) (.c (.int .i64 1)), none, false, false, [9]⟩,
    ⟨some 9, .mv (.t 18), none, false, false, [18]⟩])))))))
 (.seq (.ops 7 false [⟨some 4, .mv (.c (.int .i64 (-1))), none, false, false, []⟩])
 (.ret)))
def rs_l16_place : List IRes := [.t 4]
theorem ok_l16_place : fnOk Try.prog 30 ic_l16_place rs_l16_place 19 = true := by kernel_rfl

/-- tallyman/tallymanlaw16.alive -/
def ic_l16_alive : ICode :=
 .seq (.ops 0 false [⟨some 0, .mv (.c (.bool false)), none, false, false, [0]⟩])
 (.seq (.ops 1 false [⟨some 5, .rowView 1 [.c (.int .i64 1), .c (.int .i64 2), .c (.int .i64 3)], none, false, false, []⟩,
  ⟨some 6, .build [.int .i64 0, .int .i64 0] [(0, 1, .c (.int .i64 3)), (1, 1, .c (.int .i64 1))], none, false, false, []⟩,
  ⟨some 7, .build [.int .i64 0, .int .i64 0] [(0, 1, .c (.int .i64 1)), (1, 1, .c (.int .i64 2))], none, false, false, []⟩,
  ⟨some 8, .rowView 2 [.t 6, .t 7], none, false, false, [6, 7]⟩,
  ⟨some 1, .mv (.t 5), none, false, false, [5]⟩,
  ⟨some 2, .mv (.t 8), none, false, false, [8]⟩])
 (.seq (.ops 2 false [⟨some 10, .mv (.t 1), none, false, false, []⟩,
  ⟨some 11, .mv (.t 2), none, false, false, []⟩,
  ⟨some 12, .call (.c (.fn 20 [] [])) [.t 10, .t 11], none, false, false, [10, 11]⟩,
  ⟨some 9, .mv (.t 12), none, false, false, [12]⟩,
  ⟨some 13, .ext 0 (.t 9), none, false, false, []⟩,
  ⟨some 14, .ext 1 (.t 9), none, false, false, [9]⟩,
  ⟨some 3, .mv (.t 13), none, false, false, [13]⟩,
  ⟨some 4, .mv (.t 14), none, false, false, [14]⟩])
 (.seq (.ops 3 false [⟨some 15, .mv (.t 4), none, false, false, [4]⟩,
  ⟨some 16, .mv (.t 15), none, false, false, [15]⟩,
  ⟨some 17, .mv (.t 3), (some (16, true)), true, false, [3]⟩,
  ⟨some 18, .rowView 1 [.c (.int .i64 3), .c (.int .i64 1), .c (.int .i64 2)], (some (16, true)), true, false, []⟩,
  ⟨some 19, .call (.c (.fn 22 [] [])) [.o 17, .o 18], (some (16, true)), true, false, [17, 18]⟩,
  ⟨some 20, .pick (.t 16) (.t 19) (.c (.bool false)), none, false, false, [16, 19]⟩,
  ⟨some 21, .mv (.t 20), none, false, false, [20]⟩,
  ⟨some 22, .mv (.t 1), (some (21, true)), true, false, []⟩,
  ⟨some 23, .mv (.t 2), (some (21, true)), true, false, []⟩,
  ⟨some 24, .call (.c (.fn 27 [] [])) [.o 22, .o 23], (some (21, true)), true, false, [22, 23]⟩,
  ⟨some 25, .rowView 1 [.c (.int .i64 1), .c (.int .i64 2), .c (.int .i64 0)], (some (21, true)), true, false, []⟩,
  ⟨some 26, .call (.c (.fn 22 [] [])) [.o 24, .o 25], (some (21, true)), true, false, [24, 25]⟩,
  ⟨some 27, .pick (.t 21) (.t 26) (.c (.bool false)), none, false, false, [21, 26]⟩,
  ⟨some 28, .mv (.t 27), none, false, false, [27]⟩,
  ⟨some 29, .mv (.t 1), (some (28, true)), true, false, []⟩,
  ⟨some 30, .mv (.t 2), (some (28, true)), true, false, []⟩,
  ⟨some 31, .rowView 1 [.c (.int .i64 1)], (some (28, true)), true, false, []⟩,
  ⟨some 32, .call (.c (.fn 25 [] [])) [.o 29, .o 30, .o 31], (some (28, true)), true, false, [29, 30, 31]⟩,
  ⟨some 33, .rowView 1 [.c (.int .i64 1), .c (.int .i64 2)], (some (28, true)), true, false, []⟩,
  ⟨some 34, .call (.c (.fn 22 [] [])) [.o 32, .o 33], (some (28, true)), true, false, [32, 33]⟩,
  ⟨some 35, .pick (.t 28) (.t 34) (.c (.bool false)), none, false, false, [28, 34]⟩,
  ⟨some 36, .mv (.t 35), none, false, false, [35]⟩,
  ⟨some 37, .mv (.t 1), (some (36, true)), true, false, [1]⟩,
  ⟨some 38, .mv (.t 2), (some (36, true)), true, false, [2]⟩,
  ⟨some 39, .call (.c (.fn 23 [] [])) [.o 37, .o 38], (some (36, true)), true, false, [37, 38]⟩,
  ⟨some 40, .len (.o 39), (some (36, true)), true, false, [39]⟩,
  ⟨some 41, .bin .eql (.o 40) (.c (.int .i64 0)), (some (36, true)), true, false, [40]⟩,
  ⟨some 42, .pick (.t 36) (.t 41) (.c (.bool false)), none, false, false, [36, 41]⟩,
  ⟨some 0, .mv (.t 42), none, false, false, [42]⟩])
 (.ret))))
def rs_l16_alive : List IRes := [.t 0]
theorem ok_l16_alive : fnOk Try.prog 19 ic_l16_alive rs_l16_alive 43 = true := by kernel_rfl

/-- tallyman/tallymanlaw16.GraphOrders -/
def ic_l16_GraphOrders : ICode :=
 .seq (.ops 0 false [⟨some 4, .mv (.c (.bool false)), none, false, false, [4]⟩])
 (.seq (.seq (.ops 1 false [⟨some 9, .mv (.t 0), none, false, false, []⟩,
  ⟨some 10, .mv (.t 1), none, false, false, []⟩,
  ⟨some 11, .call (.c (.fn 18 [] [])) [.t 9, .t 10], none, false, false, [9, 10]⟩,
  ⟨some 12, .not (.t 11), none, false, false, [11]⟩])
 (.cond (.t 12)
  (.seq (.ops 2 false [⟨some 13, .call (.c (.fn 19 [] [])) [], none, false, false, []⟩,
   ⟨some 4, .mv (.t 13), none, false, false, [13]⟩])
  (.ret))
  (.skip)))
 (.seq (.ops 3 false [⟨some 15, .mv (.t 0), none, false, false, []⟩,
  ⟨some 16, .mv (.t 1), none, false, false, []⟩,
  ⟨some 17, .call (.c (.fn 20 [] [])) [.t 15, .t 16], none, false, false, [15, 16]⟩,
  ⟨some 14, .mv (.t 17), none, false, false, [17]⟩,
  ⟨some 18, .ext 0 (.t 14), none, false, false, []⟩,
  ⟨some 19, .ext 1 (.t 14), none, false, false, [14]⟩,
  ⟨some 5, .mv (.t 18), none, false, false, [18]⟩,
  ⟨some 6, .mv (.t 19), none, false, false, [19]⟩])
 (.seq (.ops 4 false [⟨some 21, .mv (.t 0), none, false, false, []⟩,
  ⟨some 22, .mv (.t 1), none, false, false, []⟩,
  ⟨some 23, .call (.c (.fn 21 [] [])) [.t 21, .t 22], none, false, false, [21, 22]⟩,
  ⟨some 20, .mv (.t 23), none, false, false, [23]⟩,
  ⟨some 24, .ext 0 (.t 20), none, false, false, []⟩,
  ⟨some 25, .ext 1 (.t 20), none, false, false, [20]⟩,
  ⟨some 7, .mv (.t 24), none, false, false, [24]⟩,
  ⟨some 8, .mv (.t 25), none, false, false, [25]⟩])
 (.seq (.ops 5 false [⟨some 26, .mv (.t 5), none, false, false, [5]⟩,
  ⟨some 27, .mv (.t 7), none, false, false, [7]⟩,
  ⟨some 28, .call (.c (.fn 22 [] [])) [.t 26, .t 27], none, false, false, [26, 27]⟩,
  ⟨some 29, .mv (.t 28), none, false, false, [28]⟩,
  ⟨some 30, .mv (.t 6), (some (29, true)), true, false, [6]⟩,
  ⟨some 31, .mv (.t 8), (some (29, true)), true, false, [8]⟩,
  ⟨some 32, .eqb false (.o 30) (.o 31), (some (29, true)), true, false, [30, 31]⟩,
  ⟨some 33, .pick (.t 29) (.t 32) (.c (.bool false)), none, false, false, [29, 32]⟩,
  ⟨some 34, .mv (.t 33), none, false, false, [33]⟩,
  ⟨some 35, .mv (.t 0), (some (34, true)), true, false, []⟩,
  ⟨some 36, .mv (.t 1), (some (34, true)), true, false, []⟩,
  ⟨some 37, .call (.c (.fn 23 [] [])) [.o 35, .o 36], (some (34, true)), true, false, [35, 36]⟩,
  ⟨some 38, .mv (.t 0), (some (34, true)), true, false, [0]⟩,
  ⟨some 39, .mv (.t 1), (some (34, true)), true, false, [1]⟩,
  ⟨some 40, .call (.c (.fn 24 [] [])) [.o 38, .o 39], (some (34, true)), true, false, [38, 39]⟩,
  ⟨some 41, .call (.c (.fn 22 [] [])) [.o 37, .o 40], (some (34, true)), true, false, [37, 40]⟩,
  ⟨some 42, .pick (.t 34) (.t 41) (.c (.bool false)), none, false, false, [34, 41]⟩,
  ⟨some 43, .mv (.t 42), none, false, false, [42]⟩,
  ⟨some 44, .call (.c (.fn 19 [] [])) [], (some (43, true)), true, false, []⟩,
  ⟨some 45, .pick (.t 43) (.t 44) (.c (.bool false)), none, false, false, [43, 44]⟩,
  ⟨some 4, .mv (.t 45), none, false, false, [45]⟩])
 (.ret)))))
def rs_l16_GraphOrders : List IRes := [.t 4]
theorem ok_l16_GraphOrders : fnOk Try.prog 4 ic_l16_GraphOrders rs_l16_GraphOrders 46 = true := by kernel_rfl

/-- tallyman/tallymanlaw16.GraphReaches -/
def ic_l16_GraphReaches : ICode :=
 .seq (.ops 0 false [⟨some 6, .mv (.c (.bool false)), none, false, false, [6]⟩])
 (.seq (.seq (.ops 1 false [⟨some 7, .mv (.t 0), none, false, false, []⟩,
  ⟨some 8, .mv (.t 1), none, false, false, []⟩,
  ⟨some 9, .call (.c (.fn 18 [] [])) [.t 7, .t 8], none, false, false, [7, 8]⟩,
  ⟨some 10, .not (.t 9), none, false, false, [9]⟩,
  ⟨some 11, .mv (.t 10), none, false, false, [10]⟩,
  ⟨some 12, .mv (.t 2), (some (11, false)), true, false, []⟩,
  ⟨some 13, .len (.o 12), (some (11, false)), true, false, [12]⟩,
  ⟨some 14, .bin .gtr (.o 13) (.c (.int .i64 30)), (some (11, false)), true, false, [13]⟩,
  ⟨some 15, .pick (.t 11) (.c (.bool true)) (.t 14), none, false, false, [11, 14]⟩])
 (.cond (.t 15)
  (.seq (.ops 2 false [⟨some 16, .call (.c (.fn 19 [] [])) [], none, false, false, []⟩,
   ⟨some 6, .mv (.t 16), none, false, false, [16]⟩])
  (.ret))
  (.skip)))
 (.seq (.ops 3 false [⟨some 17, .mv (.t 0), none, false, false, []⟩,
  ⟨some 18, .mv (.t 1), none, false, false, []⟩,
  ⟨some 19, .mv (.t 2), none, false, false, []⟩,
  ⟨some 20, .call (.c (.fn 25 [] [])) [.t 17, .t 18, .t 19], none, false, false, [17, 18, 19]⟩,
  ⟨some 21, .mv (.t 0), none, false, false, []⟩,
  ⟨some 22, .mv (.t 1), none, false, false, []⟩,
  ⟨some 23, .mv (.t 2), none, false, false, [2]⟩,
  ⟨some 24, .call (.c (.fn 26 [] [])) [.t 21, .t 22, .t 23], none, false, false, [21, 22, 23]⟩,
  ⟨some 25, .call (.c (.fn 22 [] [])) [.t 20, .t 24], none, false, false, [20, 24]⟩,
  ⟨some 26, .mv (.t 25), none, false, false, [25]⟩,
  ⟨some 27, .mv (.t 0), (some (26, true)), true, false, []⟩,
  ⟨some 28, .mv (.t 1), (some (26, true)), true, false, []⟩,
  ⟨some 29, .call (.c (.fn 27 [] [])) [.o 27, .o 28], (some (26, true)), true, false, [27, 28]⟩,
  ⟨some 30, .mv (.t 0), (some (26, true)), true, false, [0]⟩,
  ⟨some 31, .mv (.t 1), (some (26, true)), true, false, [1]⟩,
  ⟨some 32, .call (.c (.fn 28 [] [])) [.o 30, .o 31], (some (26, true)), true, false, [30, 31]⟩,
  ⟨some 33, .call (.c (.fn 22 [] [])) [.o 29, .o 32], (some (26, true)), true, false, [29, 32]⟩,
  ⟨some 34, .pick (.t 26) (.t 33) (.c (.bool false)), none, false, false, [26, 33]⟩,
  ⟨some 35, .mv (.t 34), none, false, false, [34]⟩,
  ⟨some 36, .call (.c (.fn 19 [] [])) [], (some (35, true)), true, false, []⟩,
  ⟨some 37, .pick (.t 35) (.t 36) (.c (.bool false)), none, false, false, [35, 36]⟩,
  ⟨some 6, .mv (.t 37), none, false, false, [37]⟩])
 (.ret)))
def rs_l16_GraphReaches : List IRes := [.t 6]
theorem ok_l16_GraphReaches : fnOk Try.prog 5 ic_l16_GraphReaches rs_l16_GraphReaches 38 = true := by kernel_rfl

/-- tallyman/tallymanlaw16.GraphForward -/
def ic_l16_GraphForward : ICode :=
 .seq (.ops 0 false [⟨some 6, .mv (.c (.bool false)), none, false, false, [6]⟩])
 (.seq (.seq (.ops 1 false [⟨some 22, .mv (.t 0), none, false, false, []⟩,
  ⟨some 23, .mv (.t 1), none, false, false, []⟩,
  ⟨some 24, .call (.c (.fn 18 [] [])) [.t 22, .t 23], none, false, false, [22, 23]⟩,
  ⟨some 25, .not (.t 24), none, false, false, [24]⟩,
  ⟨some 26, .mv (.t 25), none, false, false, [25]⟩,
  ⟨some 27, .mv (.t 2), (some (26, false)), true, false, []⟩,
  ⟨some 28, .len (.o 27), (some (26, false)), true, false, [27]⟩,
  ⟨some 29, .bin .gtr (.o 28) (.c (.int .i64 30)), (some (26, false)), true, false, [28]⟩,
  ⟨some 30, .pick (.t 26) (.c (.bool true)) (.t 29), none, false, false, [26, 29]⟩])
 (.cond (.t 30)
  (.seq (.ops 2 false [⟨some 31, .call (.c (.fn 19 [] [])) [], none, false, false, []⟩,
   ⟨some 6, .mv (.t 31), none, false, false, [31]⟩])
  (.ret))
  (.skip)))
 (.seq (.ops 3 false [⟨some 32, .mv (.t 0), none, false, false, []⟩,
  ⟨some 33, .call (.c (.fn 29 [] [])) [.t 32], none, false, false, [32]⟩,
  ⟨some 7, .mv (.t 33), none, false, false, [33]⟩])
 (.seq (.ops 4 false [⟨some 35, .mv (.t 0), none, false, false, []⟩,
  ⟨some 36, .mv (.t 1), none, false, false, []⟩,
  ⟨some 37, .call (.c (.fn 20 [] [])) [.t 35, .t 36], none, false, false, [35, 36]⟩,
  ⟨some 34, .mv (.t 37), none, false, false, [37]⟩,
  ⟨some 38, .ext 0 (.t 34), none, false, false, []⟩,
  ⟨some 39, .ext 1 (.t 34), none, false, false, [34]⟩,
  ⟨some 8, .mv (.t 38), none, false, false, [38]⟩,
  ⟨some 9, .mv (.t 39), none, false, false, [39]⟩])
 (.seq (.ops 5 false [⟨some 40, .mv (.t 0), none, false, false, []⟩,
  ⟨some 41, .mv (.t 1), none, false, false, []⟩,
  ⟨some 42, .call (.c (.fn 23 [] [])) [.t 40, .t 41], none, false, false, [40, 41]⟩,
  ⟨some 43, .mv (.t 0), none, false, false, []⟩,
  ⟨some 44, .mv (.t 1), none, false, false, []⟩,
  ⟨some 45, .call (.c (.fn 27 [] [])) [.t 43, .t 44], none, false, false, [43, 44]⟩,
  ⟨some 10, .mv (.t 42), none, false, false, [42]⟩,
  ⟨some 11, .mv (.t 45), none, false, false, [45]⟩])
 (.seq (.seq (.ops 6 false [⟨some 46, .mv (.t 8), none, false, false, []⟩,
  ⟨some 47, .len (.t 46), none, false, false, [46]⟩,
  ⟨some 48, .mv (.t 10), none, false, false, []⟩,
  ⟨some 49, .len (.t 48), none, false, false, [48]⟩,
  ⟨some 50, .bin .add (.t 47) (.t 49), none, false, false, [47, 49]⟩,
  ⟨some 51, .mv (.t 7), none, false, false, []⟩,
  ⟨some 52, .len (.t 51), none, false, false, [51]⟩,
  ⟨some 53, .bin .neq (.t 50) (.t 52), none, false, false, [50, 52]⟩,
  ⟨some 54, .mv (.t 53), none, false, false, [53]⟩,
  ⟨some 55, .mv (.t 9), (some (54, false)), true, false, [9]⟩,
  ⟨some 56, .mv (.t 10), (some (54, false)), true, false, []⟩,
  ⟨some 57, .len (.o 56), (some (54, false)), true, false, [56]⟩,
  ⟨some 58, .bin .eql (.o 57) (.c (.int .i64 0)), (some (54, false)), true, false, [57]⟩,
  ⟨some 59, .eqb true (.o 55) (.o 58), (some (54, false)), true, false, [55, 58]⟩,
  ⟨some 60, .pick (.t 54) (.c (.bool true)) (.t 59), none, false, false, [54, 59]⟩,
  ⟨some 61, .mv (.t 60), none, false, false, [60]⟩,
  ⟨some 62, .mv (.t 11), (some (61, false)), true, false, []⟩,
  ⟨some 63, .len (.o 62), (some (61, false)), true, false, [62]⟩,
  ⟨some 64, .mv (.t 7), (some (61, false)), true, false, []⟩,
  ⟨some 65, .len (.o 64), (some (61, false)), true, false, [64]⟩,
  ⟨some 66, .bin .neq (.o 63) (.o 65), (some (61, false)), true, false, [63, 65]⟩,
  ⟨some 67, .pick (.t 61) (.c (.bool true)) (.t 66), none, false, false, [61, 66]⟩])
 (.cond (.t 67)
  (.seq (.ops 7 false [⟨some 6, .mv (.c (.bool false)), none, false, false, []⟩])
  (.ret))
  (.skip)))
 (.seq (.seq (.ops 8 false [⟨some 68, .mv (.t 1), none, false, false, []⟩,
  ⟨some 69, .len (.t 68), none, false, false, []⟩,
  ⟨some 70, .mv (.c (.int .i64 0)), none, false, false, []⟩])
 (.block 0 (.loop [0, 1, 2, 7, 8, 10, 11, 68, 69, 70] (.seq (.ops 9 false [⟨some 71, .bin .lss (.t 70) (.t 69), none, false, false, []⟩])
   (.seq (.cond (.t 71)
    (.skip)
    (.exit 0))
   (.seq (.block 1 (.seq (.ops 10 false [⟨some 72, .ia 2 [.int .i64 0, .int .i64 0] (.t 68) (.t 70), none, false, false, []⟩,
     ⟨some 73, .ld (some 2) [.int .i64 0, .int .i64 0] (.t 72), none, false, false, [72]⟩,
     ⟨some 13, .alloc [.int .i64 0, .int .i64 0], none, false, false, []⟩,
     ⟨none, .st 2 (.t 13) (.t 73), none, false, false, [73]⟩])
    (.seq (.ops 11 true [⟨some 74, .mv (.t 7), none, false, false, []⟩,
     ⟨some 75, .fa 0 (.t 13), none, false, false, []⟩,
     ⟨some 76, .ld none [] (.t 75), none, false, false, [75]⟩,
     ⟨some 77, .call (.c (.fn 30 [] [])) [.t 74, .t 76], none, false, false, [74, 76]⟩,
     ⟨some 78, .mv (.t 7), none, false, false, []⟩,
     ⟨some 79, .fa 1 (.t 13), none, false, false, []⟩,
     ⟨some 80, .ld none [] (.t 79), none, false, false, [79]⟩,
     ⟨some 81, .call (.c (.fn 30 [] [])) [.t 78, .t 80], none, false, false, [78, 80]⟩,
     ⟨some 14, .mv (.t 77), none, false, false, [77]⟩,
     ⟨some 15, .mv (.t 81), none, false, false, [81]⟩])
    (.seq (.seq (.ops 12 false [⟨some 82, .mv (.t 14), none, false, false, []⟩,
     ⟨some 83, .bin .lss (.t 82) (.c (.int .i64 0)), none, false, false, [82]⟩,
     ⟨some 84, .mv (.t 83), none, false, false, [83]⟩,
     ⟨some 85, .mv (.t 15), (some (84, false)), true, false, []⟩,
     ⟨some 86, .bin .lss (.o 85) (.c (.int .i64 0)), (some (84, false)), true, false, [85]⟩,
     ⟨some 87, .pick (.t 84) (.c (.bool true)) (.t 86), none, false, false, [84, 86]⟩])
    (.cond (.t 87)
     (.exit 1)
     (.skip)))
    (.seq (.ops 13 true [⟨some 88, .mv (.t 10), none, false, false, []⟩,
     ⟨some 89, .fa 0 (.t 13), none, false, false, []⟩,
     ⟨some 90, .ld none [] (.t 89), none, false, false, [89]⟩,
     ⟨some 91, .call (.c (.fn 30 [] [])) [.t 88, .t 90], none, false, false, [88, 90]⟩,
     ⟨some 92, .bin .geq (.t 91) (.c (.int .i64 0)), none, false, false, [91]⟩,
     ⟨some 93, .mv (.t 92), none, false, false, [92]⟩,
     ⟨some 94, .mv (.t 10), (some (93, true)), true, false, []⟩,
     ⟨some 95, .fa 1 (.t 13), (some (93, true)), true, false, []⟩,
     ⟨some 96, .ld none [] (.o 95), (some (93, true)), true, false, [95]⟩,
     ⟨some 97, .call (.c (.fn 30 [] [])) [.o 94, .o 96], (some (93, true)), true, false, [94, 96]⟩,
     ⟨some 98, .bin .lss (.o 97) (.c (.int .i64 0)), (some (93, true)), true, false, [97]⟩,
     ⟨some 99, .pick (.t 93) (.t 98) (.c (.bool false)), none, false, false, [93, 98]⟩,
     ⟨some 100, .mv (.t 99), none, false, false, [99]⟩,
     ⟨some 101, .mv (.t 11), (some (100, false)), true, false, []⟩,
     ⟨some 102, .mv (.t 15), (some (100, false)), true, false, []⟩,
     ⟨some 103, .ia 1 [.int .i64 0] (.o 101) (.o 102), (some (100, false)), true, false, [101, 102]⟩,
     ⟨some 104, .ld none [.int .i64 0] (.o 103), (some (100, false)), true, false, [103]⟩,
     ⟨some 105, .bin .geq (.o 104) (.c (.int .i64 0)), (some (100, false)), true, false, [104]⟩,
     ⟨some 106, .mv (.o 105), (some (100, false)), true, false, [105]⟩,
     ⟨some 107, .mv (.t 11), (some (106, true)), true, false, []⟩,
     ⟨some 108, .mv (.t 14), (some (106, true)), true, false, [14]⟩,
     ⟨some 109, .ia 1 [.int .i64 0] (.o 107) (.o 108), (some (106, true)), true, false, [107, 108]⟩,
     ⟨some 110, .ld none [.int .i64 0] (.o 109), (some (106, true)), true, false, [109]⟩,
     ⟨some 111, .mv (.t 11), (some (106, true)), true, false, []⟩,
     ⟨some 112, .mv (.t 15), (some (106, true)), true, false, [15]⟩,
     ⟨some 113, .ia 1 [.int .i64 0] (.o 111) (.o 112), (some (106, true)), true, false, [111, 112]⟩,
     ⟨some 114, .ld none [.int .i64 0] (.o 113), (some (106, true)), true, false, [113]⟩,
     ⟨some 115, .bin .geq (.o 110) (.o 114), (some (106, true)), true, false, [110, 114]⟩,
     ⟨some 116, .mv (.o 115), (some (106, true)), true, false, [115]⟩,
     ⟨some 117, .mv (.t 8), (some (116, false)), true, false, []⟩,
     ⟨some 118, .fa 0 (.t 13), (some (116, false)), true, false, []⟩,
     ⟨some 119, .ld none [] (.o 118), (some (116, false)), true, false, [118]⟩,
     ⟨some 120, .call (.c (.fn 30 [] [])) [.o 117, .o 119], (some (116, false)), true, false, [117, 119]⟩,
     ⟨some 121, .mv (.t 8), (some (116, false)), true, false, []⟩,
     ⟨some 122, .fa 1 (.t 13), (some (116, false)), true, false, [13]⟩,
     ⟨some 123, .ld none [] (.o 122), (some (116, false)), true, false, [122]⟩,
     ⟨some 124, .call (.c (.fn 30 [] [])) [.o 121, .o 123], (some (116, false)), true, false, [121, 123]⟩,
     ⟨some 125, .bin .geq (.o 120) (.o 124), (some (116, false)), true, false, [120, 124]⟩,
     ⟨some 126, .pick (.o 116) (.c (.bool true)) (.t 125), (some (106, true)), true, false, [116, 125]⟩,
     ⟨some 127, .pick (.o 106) (.t 126) (.c (.bool false)), (some (100, false)), true, false, [106, 126]⟩,
     ⟨some 128, .pick (.t 100) (.c (.bool true)) (.t 127), none, false, false, [100, 127]⟩])
    (.cond (.t 128)
     (.seq (.ops 14 false [⟨some 6, .mv (.c (.bool false)), none, false, false, []⟩])
     (.ret))
     (.skip)))))))
   (.ops 15 false [⟨some 129, .bin .add (.t 70) (.c (.int .i64 1)), none, false, false, [70]⟩,
    ⟨some 70, .mv (.t 129), none, false, false, [129]⟩])))))))
 (.seq (.seq (.ops 16 false [⟨some 130, .mv (.t 10), none, false, false, []⟩,
  ⟨some 131, .len (.t 130), none, false, false, []⟩,
  ⟨some 132, .mv (.c (.int .i64 0)), none, false, false, []⟩])
 (.block 2 (.loop [0, 1, 2, 7, 10, 11, 130, 131, 132] (.seq (.ops 17 false [⟨some 133, .bin .lss (.t 132) (.t 131), none, false, false, []⟩])
   (.seq (.cond (.t 133)
    (.skip)
    (.exit 2))
   (.seq (.block 3 (.seq (.ops 18 false [⟨some 134, .ia 1 [.int .i64 0] (.t 130) (.t 132), none, false, false, []⟩,
     ⟨some 135, .ld none [.int .i64 0] (.t 134), none, false, false, [134]⟩,
     ⟨some 17, .mv (.t 135), none, false, false, [135]⟩])
    (.seq (.ops 19 false [⟨some 18, .mv (.c (.bool false)), none, false, false, []⟩])
    (.seq (.seq (.ops 20 false [⟨some 136, .mv (.t 1), none, false, false, []⟩,
     ⟨some 137, .len (.t 136), none, false, false, []⟩,
     ⟨some 138, .mv (.c (.int .i64 0)), none, false, false, []⟩])
    (.block 4 (.loop [0, 1, 2, 7, 10, 11, 17, 18, 130, 131, 132, 136, 137, 138] (.seq (.ops 21 false [⟨some 139, .bin .lss (.t 138) (.t 137), none, false, false, []⟩])
      (.seq (.cond (.t 139)
       (.skip)
       (.exit 4))
      (.seq (.block 5 (.seq (.ops 22 false [⟨some 140, .ia 2 [.int .i64 0, .int .i64 0] (.t 136) (.t 138), none, false, false, []⟩,
        ⟨some 141, .ld (some 2) [.int .i64 0, .int .i64 0] (.t 140), none, false, false, [140]⟩,
        ⟨some 20, .alloc [.int .i64 0, .int .i64 0], none, false, false, []⟩,
        ⟨none, .st 2 (.t 20) (.t 141), none, false, false, [141]⟩])
       (.ops 23 false [⟨some 142, .mv (.t 18), none, false, false, [18]⟩,
        ⟨some 143, .mv (.t 142), none, false, false, [142]⟩,
        ⟨some 144, .fa 1 (.t 20), (some (143, false)), true, false, []⟩,
        ⟨some 145, .ld none [] (.o 144), (some (143, false)), true, false, [144]⟩,
        ⟨some 146, .mv (.t 17), (some (143, false)), true, false, []⟩,
        ⟨some 147, .bin .eql (.o 145) (.o 146), (some (143, false)), true, false, [145, 146]⟩,
        ⟨some 148, .mv (.o 147), (some (143, false)), true, false, [147]⟩,
        ⟨some 149, .mv (.t 10), (some (148, true)), true, false, []⟩,
        ⟨some 150, .fa 0 (.t 20), (some (148, true)), true, false, [20]⟩,
        ⟨some 151, .ld none [] (.o 150), (some (148, true)), true, false, [150]⟩,
        ⟨some 152, .call (.c (.fn 30 [] [])) [.o 149, .o 151], (some (148, true)), true, false, [149, 151]⟩,
        ⟨some 153, .bin .geq (.o 152) (.c (.int .i64 0)), (some (148, true)), true, false, [152]⟩,
        ⟨some 154, .pick (.o 148) (.t 153) (.c (.bool false)), (some (143, false)), true, false, [148, 153]⟩,
        ⟨some 155, .pick (.t 143) (.c (.bool true)) (.t 154), none, false, false, [143, 154]⟩,
        ⟨some 18, .mv (.t 155), none, false, false, [155]⟩])))
      (.ops 24 false [⟨some 156, .bin .add (.t 138) (.c (.int .i64 1)), none, false, false, [138]⟩,
       ⟨some 138, .mv (.t 156), none, false, false, [156]⟩])))))))
    (.seq (.ops 25 false [⟨some 157, .mv (.t 18), none, false, false, [18]⟩,
     ⟨some 158, .not (.t 157), none, false, false, [157]⟩,
     ⟨some 159, .mv (.t 158), none, false, false, [158]⟩,
     ⟨some 160, .mv (.t 11), (some (159, false)), true, false, []⟩,
     ⟨some 161, .mv (.t 7), (some (159, false)), true, false, []⟩,
     ⟨some 162, .mv (.t 17), (some (159, false)), true, false, [17]⟩,
     ⟨some 163, .call (.c (.fn 30 [] [])) [.o 161, .o 162], (some (159, false)), true, false, [161, 162]⟩,
     ⟨some 164, .ia 1 [.int .i64 0] (.o 160) (.o 163), (some (159, false)), true, false, [160, 163]⟩,
     ⟨some 165, .ld none [.int .i64 0] (.o 164), (some (159, false)), true, false, [164]⟩,
     ⟨some 166, .bin .neq (.o 165) (.c (.int .i64 (-1))), (some (159, false)), true, false, [165]⟩,
     ⟨some 167, .pick (.t 159) (.c (.bool true)) (.t 166), none, false, false, [159, 166]⟩])
    (.cond (.t 167)
     (.seq (.ops 26 false [⟨some 6, .mv (.c (.bool false)), none, false, false, []⟩])
     (.ret))
     (.skip)))))))
   (.ops 27 false [⟨some 168, .bin .add (.t 132) (.c (.int .i64 1)), none, false, false, [132]⟩,
    ⟨some 132, .mv (.t 168), none, false, false, [168]⟩])))))))
 (.seq (.ops 28 false [⟨some 169, .mv (.t 0), none, false, false, []⟩,
  ⟨some 170, .mv (.t 1), none, false, false, []⟩,
  ⟨some 171, .mv (.t 2), none, false, false, [2]⟩,
  ⟨some 172, .call (.c (.fn 25 [] [])) [.t 169, .t 170, .t 171], none, false, false, [169, 170, 171]⟩,
  ⟨some 21, .mv (.t 172), none, false, false, [172]⟩])
 (.seq (.ops 29 false [⟨some 173, .mv (.t 0), none, false, false, [0]⟩,
  ⟨some 174, .mv (.t 1), none, false, false, [1]⟩,
  ⟨some 175, .mv (.t 21), none, false, false, []⟩,
  ⟨some 176, .call (.c (.fn 25 [] [])) [.t 173, .t 174, .t 175], none, false, false, [173, 174, 175]⟩,
  ⟨some 177, .mv (.t 21), none, false, false, [21]⟩,
  ⟨some 178, .call (.c (.fn 22 [] [])) [.t 176, .t 177], none, false, false, [176, 177]⟩,
  ⟨some 179, .mv (.t 178), none, false, false, [178]⟩,
  ⟨some 180, .call (.c (.fn 19 [] [])) [], (some (179, true)), true, false, []⟩,
  ⟨some 181, .pick (.t 179) (.t 180) (.c (.bool false)), none, false, false, [179, 180]⟩,
  ⟨some 6, .mv (.t 181), none, false, false, [181]⟩])
 (.ret))))))))))
def rs_l16_GraphForward : List IRes := [.t 6]
theorem ok_l16_GraphForward : fnOk Try.prog 6 ic_l16_GraphForward rs_l16_GraphForward 182 = true := by kernel_rfl

end Go.Proofs.Ytaimhgmakgbfaaa.Sx
