/- Functions of the seat in the small language. No conditions: a kit of our own. -/
import Derived.Test.YtnjpfoblmomnlaaProg
import Derived.Test.YtnjpfoblmomnlaaSx17
namespace Go.Proofs.Ytnjpfoblmomnlaa.Sx
open Go Go.RowKit
set_option linter.unusedVariables false

/-- slices.isNaN(int) -/
def ic_slices_isNaN_int : ICode :=
 .seq (.ops 0 false [⟨some 2, .mv (.c (.bool false)), none, false, false, [2]⟩])
 (.seq (.ops 1 false [⟨some 3, .mv (.t 0), none, false, false, []⟩,
  ⟨some 4, .mv (.t 0), none, false, false, [0]⟩,
  ⟨some 5, .bin .neq (.t 3) (.t 4), none, false, false, [3, 4]⟩,
  ⟨some 2, .mv (.t 5), none, false, false, [5]⟩])
 (.ret))
def rs_slices_isNaN_int : List IRes := [.t 2]
theorem ok_slices_isNaN_int : fnOk Try.prog 300 ic_slices_isNaN_int rs_slices_isNaN_int 6 = true := by kernel_rfl

/-- slices.BinarySearch(()int,int) -/
def ic_slices_BinarySearch_int_int : ICode :=
 .seq (.ops 0 false [⟨some 4, .mv (.c (.int .i64 0)), none, false, false, [4]⟩,
  ⟨some 5, .mv (.c (.bool false)), none, false, false, [5]⟩])
 (.seq (.ops 1 false [⟨some 10, .mv (.t 0), none, false, false, []⟩,
  ⟨some 11, .len (.t 10), none, false, false, [10]⟩,
  ⟨some 6, .mv (.t 11), none, false, false, [11]⟩])
 (.seq (.ops 2 false [⟨some 12, .mv (.t 6), none, false, false, []⟩,
  ⟨some 7, .mv (.c (.int .i64 0)), none, false, false, []⟩,
  ⟨some 8, .mv (.t 12), none, false, false, [12]⟩])
 (.seq (.block 0 (.loop [0, 1, 6, 7, 8] (.seq (.seq (.ops 3 false [⟨some 13, .mv (.t 7), none, false, false, []⟩,
    ⟨some 14, .mv (.t 8), none, false, false, []⟩,
    ⟨some 15, .bin .lss (.t 13) (.t 14), none, false, false, [13, 14]⟩])
   (.cond (.t 15)
    (.skip)
    (.exit 0)))
   (.block 1 (.seq (.ops 4 false [⟨some 16, .mv (.t 7), none, false, false, []⟩,
     ⟨some 17, .mv (.t 8), none, false, false, []⟩,
     ⟨some 18, .bin .add (.t 16) (.t 17), none, false, false, [16, 17]⟩,
     ⟨some 19, .cvw .u64 (.t 18), none, false, false, [18]⟩,
     ⟨some 20, .binw .shr (.t 19) (.c (.int .u64 1)), none, false, false, [19]⟩,
     ⟨some 21, .cvw .i64 (.t 20), none, false, false, [20]⟩,
     ⟨some 9, .mv (.t 21), none, false, false, [21]⟩])
    (.seq (.ops 5 false [⟨some 22, .mv (.t 0), none, false, false, []⟩,
     ⟨some 23, .mv (.t 9), none, false, false, []⟩,
     ⟨some 24, .ia 1 [.int .i64 0] (.t 22) (.t 23), none, false, false, [22, 23]⟩,
     ⟨some 25, .ld none [.int .i64 0] (.t 24), none, false, false, [24]⟩,
     ⟨some 26, .mv (.t 1), none, false, false, []⟩,
     ⟨some 27, .call (.c (.fn 280 [] [])) [.t 25, .t 26], none, false, false, [25, 26]⟩])
    (.cond (.t 27)
     (.ops 6 false [⟨some 28, .mv (.t 9), none, false, false, [9]⟩,
      ⟨some 29, .bin .add (.t 28) (.c (.int .i64 1)), none, false, false, [28]⟩,
      ⟨some 7, .mv (.t 29), none, false, false, [29]⟩])
     (.ops 7 false [⟨some 30, .mv (.t 9), none, false, false, [9]⟩,
      ⟨some 8, .mv (.t 30), none, false, false, [30]⟩]))))))))
 (.seq (.ops 8 false [⟨some 31, .mv (.t 7), none, false, false, []⟩,
  ⟨some 32, .mv (.t 7), none, false, false, []⟩,
  ⟨some 33, .mv (.t 6), none, false, false, [6]⟩,
  ⟨some 34, .bin .lss (.t 32) (.t 33), none, false, false, [32, 33]⟩,
  ⟨some 35, .mv (.t 34), none, false, false, [34]⟩,
  ⟨some 36, .mv (.t 0), (some (35, true)), true, false, []⟩,
  ⟨some 37, .mv (.t 7), (some (35, true)), true, false, []⟩,
  ⟨some 38, .ia 1 [.int .i64 0] (.o 36) (.o 37), (some (35, true)), true, false, [36, 37]⟩,
  ⟨some 39, .ld none [.int .i64 0] (.o 38), (some (35, true)), true, false, [38]⟩,
  ⟨some 40, .mv (.t 1), (some (35, true)), true, false, []⟩,
  ⟨some 41, .bin .eql (.o 39) (.o 40), (some (35, true)), true, false, [39, 40]⟩,
  ⟨some 42, .mv (.o 41), (some (35, true)), true, false, [41]⟩,
  ⟨some 43, .mv (.t 0), (some (42, false)), true, false, [0]⟩,
  ⟨some 44, .mv (.t 7), (some (42, false)), true, false, [7]⟩,
  ⟨some 45, .ia 1 [.int .i64 0] (.o 43) (.o 44), (some (42, false)), true, false, [43, 44]⟩,
  ⟨some 46, .ld none [.int .i64 0] (.o 45), (some (42, false)), true, false, [45]⟩,
  ⟨some 47, .call (.c (.fn 300 [] [])) [.o 46], (some (42, false)), true, false, [46]⟩,
  ⟨some 48, .mv (.o 47), (some (42, false)), true, false, [47]⟩,
  ⟨some 49, .mv (.t 1), (some (48, true)), true, false, [1]⟩,
  ⟨some 50, .call (.c (.fn 300 [] [])) [.o 49], (some (48, true)), true, false, [49]⟩,
  ⟨some 51, .pick (.o 48) (.t 50) (.c (.bool false)), (some (42, false)), true, false, [48, 50]⟩,
  ⟨some 52, .pick (.o 42) (.c (.bool true)) (.t 51), (some (35, true)), true, false, [42, 51]⟩,
  ⟨some 53, .pick (.t 35) (.t 52) (.c (.bool false)), none, false, false, [35, 52]⟩,
  ⟨some 4, .mv (.t 31), none, false, false, [31]⟩,
  ⟨some 5, .mv (.t 53), none, false, false, [53]⟩])
 (.ret)))))
def rs_slices_BinarySearch_int_int : List IRes := [.t 4, .t 5]
theorem ok_slices_BinarySearch_int_int : fnOk Try.prog 287 ic_slices_BinarySearch_int_int rs_slices_BinarySearch_int_int 54 = true := by kernel_rfl

/-- (*tallyman/graph.web).has -/
def ic_graph_web_has : ICode :=
 .seq (.ops 0 false [⟨some 4, .mv (.c (.bool false)), none, false, false, [4]⟩])
 (.seq (.ops 1 false [⟨some 8, .mv (.t 0), none, false, false, [0]⟩,
  ⟨some 9, .nilc (.t 8), none, false, false, [8]⟩,
  ⟨some 10, .fa 0 (.t 9), none, false, false, [9]⟩,
  ⟨some 11, .ld none [] (.t 10), none, false, false, [10]⟩,
  ⟨some 12, .mv (.t 1), none, false, false, [1]⟩,
  ⟨some 13, .call (.c (.fn 287 [] [])) [.t 11, .t 12], none, false, false, [11, 12]⟩,
  ⟨some 7, .mv (.t 13), none, false, false, [13]⟩,
  ⟨some 14, .ext 0 (.t 7), none, false, false, []⟩,
  ⟨some 15, .ext 1 (.t 7), none, false, false, [7]⟩,
  ⟨some 5, .mv (.t 14), none, false, false, [5, 14]⟩,
  ⟨some 6, .mv (.t 15), none, false, false, [15]⟩])
 (.seq (.ops 2 false [⟨some 16, .mv (.t 6), none, false, false, [6]⟩,
  ⟨some 4, .mv (.t 16), none, false, false, [16]⟩])
 (.ret)))
def rs_graph_web_has : List IRes := [.t 4]
theorem ok_graph_web_has : fnOk Try.prog 258 ic_graph_web_has rs_graph_web_has 17 = true := by kernel_rfl

/-- tallyman/graph.of -/
def ic_graph_of : ICode :=
 .seq (.ops 0 false [⟨some 4, .mv (.c (.nilp)), none, false, false, [4]⟩])
 (.seq (.ops 1 false [⟨some 8, .mv (.t 0), none, false, false, [0]⟩,
  ⟨some 9, .call (.c (.fn 103 [] [])) [.t 8], none, false, false, [8]⟩,
  ⟨some 10, .mkmap, none, false, false, []⟩,
  ⟨some 11, .mkmap, none, false, false, []⟩,
  ⟨some 12, .build [.nils, .nilm, .nilm] [(0, 1, .t 9), (1, 1, .t 10), (2, 1, .t 11)], none, false, false, [9, 10, 11]⟩,
  ⟨some 13, .box (.t 12), none, false, false, [12]⟩,
  ⟨some 5, .mv (.t 13), none, false, false, [13]⟩])
 (.seq (.ops 2 false [⟨some 14, .mv (.t 5), none, false, false, []⟩,
  ⟨some 15, .nilc (.t 14), none, false, false, [14]⟩,
  ⟨some 16, .fa 0 (.t 15), none, false, false, [15]⟩,
  ⟨some 17, .ld none [] (.t 16), none, false, false, [16]⟩,
  ⟨some 18, .call (.c (.fn 159 [] [])) [.t 17], none, false, false, [17, 18]⟩])
 (.seq (.ops 3 false [⟨some 19, .mv (.t 5), none, false, false, []⟩,
  ⟨some 20, .mv (.t 5), none, false, false, []⟩,
  ⟨some 21, .nilc (.t 20), none, false, false, [20]⟩,
  ⟨some 22, .fa 0 (.t 21), none, false, false, [21]⟩,
  ⟨some 23, .ld none [] (.t 22), none, false, false, [22]⟩,
  ⟨some 24, .call (.c (.fn 257 [] [])) [.t 23], none, false, false, [23]⟩,
  ⟨some 25, .nilc (.t 19), none, false, false, [19]⟩,
  ⟨some 26, .fa 0 (.t 25), none, false, false, [25]⟩,
  ⟨none, .st 1 (.t 26) (.t 24), none, false, false, [24, 26]⟩])
 (.seq (.seq (.ops 4 false [⟨some 27, .mv (.t 1), none, false, false, [1]⟩,
  ⟨some 28, .len (.t 27), none, false, false, []⟩,
  ⟨some 29, .mv (.c (.int .i64 0)), none, false, false, []⟩])
 (.block 0 (.loop [5, 27, 28, 29] (.seq (.ops 5 false [⟨some 30, .bin .lss (.t 29) (.t 28), none, false, false, []⟩])
   (.seq (.cond (.t 30)
    (.skip)
    (.exit 0))
   (.seq (.block 1 (.seq (.ops 6 false [⟨some 31, .ia 2 [.int .i64 0, .int .i64 0] (.t 27) (.t 29), none, false, false, []⟩,
     ⟨some 32, .ld (some 2) [.int .i64 0, .int .i64 0] (.t 31), none, false, false, [31]⟩,
     ⟨some 7, .alloc [.int .i64 0, .int .i64 0], none, false, false, []⟩,
     ⟨none, .st 2 (.t 7) (.t 32), none, false, false, [32]⟩])
    (.seq (.ops 7 false [⟨some 33, .mv (.t 5), none, false, false, []⟩,
     ⟨some 34, .fa 0 (.t 7), none, false, false, []⟩,
     ⟨some 35, .ld none [] (.t 34), none, false, false, [34]⟩,
     ⟨some 36, .call (.c (.fn 258 [] [])) [.t 33, .t 35], none, false, false, [33, 35]⟩,
     ⟨some 37, .mv (.t 36), none, false, false, [36]⟩,
     ⟨some 38, .mv (.t 5), (some (37, true)), true, false, []⟩,
     ⟨some 39, .fa 1 (.t 7), (some (37, true)), true, false, []⟩,
     ⟨some 40, .ld none [] (.o 39), (some (37, true)), true, false, [39]⟩,
     ⟨some 41, .call (.c (.fn 258 [] [])) [.o 38, .o 40], (some (37, true)), true, false, [38, 40]⟩,
     ⟨some 42, .pick (.t 37) (.t 41) (.c (.bool false)), none, false, false, [37, 41]⟩])
    (.cond (.t 42)
     (.seq (.ops 8 true [⟨some 43, .mv (.t 5), none, false, false, []⟩,
      ⟨some 44, .nilc (.t 43), none, false, true, [43]⟩,
      ⟨some 45, .fa 1 (.t 44), none, false, true, [44]⟩,
      ⟨some 46, .ld none [] (.t 45), none, false, true, [45]⟩,
      ⟨some 47, .fa 0 (.t 7), none, false, true, []⟩,
      ⟨some 48, .ld none [] (.t 47), none, false, true, [47]⟩,
      ⟨some 49, .mv (.t 5), none, false, false, []⟩,
      ⟨some 50, .nilc (.t 49), none, false, false, [49]⟩,
      ⟨some 51, .fa 1 (.t 50), none, false, false, [50]⟩,
      ⟨some 52, .ld none [] (.t 51), none, false, false, [51]⟩,
      ⟨some 53, .fa 0 (.t 7), none, false, false, []⟩,
      ⟨some 54, .ld none [] (.t 53), none, false, false, [53]⟩,
      ⟨some 55, .look (.nils) false (.t 52) (.t 54), none, false, false, [52, 54]⟩,
      ⟨some 56, .fa 1 (.t 7), none, false, false, []⟩,
      ⟨some 57, .ld none [] (.t 56), none, false, false, [56]⟩,
      ⟨some 58, .rowView 1 [.t 57], none, false, false, [57]⟩,
      ⟨some 59, .app 1 (.t 55) (.t 58), none, false, false, [55, 58]⟩,
      ⟨none, .mapup (.t 46) (.t 48) (.t 59), none, false, false, [46, 48, 59]⟩])
     (.ops 9 true [⟨some 60, .mv (.t 5), none, false, false, []⟩,
      ⟨some 61, .nilc (.t 60), none, false, false, [60]⟩,
      ⟨some 62, .fa 2 (.t 61), none, false, false, [61]⟩,
      ⟨some 63, .ld none [] (.t 62), none, false, false, [62]⟩,
      ⟨some 64, .fa 1 (.t 7), none, false, false, [7]⟩,
      ⟨some 65, .ld none [] (.t 64), none, false, false, [64]⟩,
      ⟨some 66, .look (.int .i64 0) false (.t 63) (.t 65), none, false, false, []⟩,
      ⟨some 67, .bin .add (.t 66) (.c (.int .i64 1)), none, false, false, [66]⟩,
      ⟨none, .mapup (.t 63) (.t 65) (.t 67), none, false, false, [63, 65, 67]⟩]))
     (.skip)))))
   (.ops 10 false [⟨some 68, .bin .add (.t 29) (.c (.int .i64 1)), none, false, false, [29]⟩,
    ⟨some 29, .mv (.t 68), none, false, false, [68]⟩])))))))
 (.seq (.ops 11 false [⟨some 69, .mv (.t 5), none, false, false, [5]⟩,
  ⟨some 4, .mv (.t 69), none, false, false, [69]⟩])
 (.ret))))))
def rs_graph_of : List IRes := [.t 4]
theorem ok_graph_of : fnOk Try.prog 207 ic_graph_of rs_graph_of 70 = true := by kernel_rfl

/-- (*tallyman/graph.web).order -/
def ic_graph_web_order : ICode :=
 .back [0, 1, 4, 5] (.seq (.ops 0 false [⟨some 12, .call (.c (.fn 259 [] [])) [], none, false, false, []⟩,
   ⟨some 13, .mkmap, none, false, false, []⟩,
   ⟨some 4, .mv (.t 12), none, false, false, [12]⟩,
   ⟨some 5, .mv (.t 13), none, false, false, [13]⟩])
 (.seq (.seq (.ops 1 false [⟨some 14, .mv (.t 0), none, false, false, []⟩,
   ⟨some 15, .nilc (.t 14), none, false, false, [14]⟩,
   ⟨some 16, .fa 0 (.t 15), none, false, false, [15]⟩,
   ⟨some 17, .ld none [] (.t 16), none, false, false, [16]⟩,
   ⟨some 18, .len (.t 17), none, false, false, []⟩,
   ⟨some 19, .mv (.c (.int .i64 0)), none, false, false, []⟩])
  (.block 0 (.loop [0, 1, 4, 5, 17, 18, 19] (.seq (.ops 2 false [⟨some 20, .bin .lss (.t 19) (.t 18), none, false, false, []⟩])
    (.seq (.cond (.t 20)
     (.skip)
     (.exit 0))
    (.seq (.block 1 (.seq (.ops 3 false [⟨some 21, .ia 1 [.int .i64 0] (.t 17) (.t 19), none, false, false, []⟩,
      ⟨some 22, .ld none [.int .i64 0] (.t 21), none, false, false, [21]⟩,
      ⟨some 7, .mv (.t 22), none, false, false, [22]⟩])
     (.seq (.ops 4 false [⟨some 23, .mv (.t 0), none, false, false, []⟩,
      ⟨some 24, .nilc (.t 23), none, false, false, [23]⟩,
      ⟨some 25, .fa 2 (.t 24), none, false, false, [24]⟩,
      ⟨some 26, .ld none [] (.t 25), none, false, false, [25]⟩,
      ⟨some 27, .mv (.t 7), none, false, false, []⟩,
      ⟨some 28, .look (.int .i64 0) false (.t 26) (.t 27), none, false, false, [26, 27]⟩,
      ⟨some 29, .bin .eql (.t 28) (.c (.int .i64 0)), none, false, false, [28]⟩])
     (.cond (.t 29)
      (.ops 5 false [⟨some 30, .mv (.t 4), none, false, false, []⟩,
       ⟨some 31, .mv (.t 7), none, false, false, []⟩,
       ⟨some 32, .mv (.t 7), none, false, false, [7]⟩,
       ⟨some 33, .call (.c (.fn 260 [] [])) [.t 30, .t 31, .c (.int .i64 0), .t 32], none, false, false, [30, 31, 32, 33]⟩])
      (.skip)))))
    (.ops 6 false [⟨some 34, .bin .add (.t 19) (.c (.int .i64 1)), none, false, false, [19]⟩,
     ⟨some 19, .mv (.t 34), none, false, false, [34]⟩])))))))
 (.label 0))) 0
  (.seq (.ops 7 false [⟨some 36, .mv (.t 4), none, false, false, []⟩,
   ⟨some 37, .call (.c (.fn 261 [] [])) [.t 36], none, false, false, [36]⟩,
   ⟨some 35, .mv (.t 37), none, false, false, [37]⟩,
   ⟨some 38, .ext 0 (.t 35), none, false, false, []⟩,
   ⟨some 39, .ext 1 (.t 35), none, false, false, [35]⟩,
   ⟨some 8, .mv (.t 38), none, false, false, [38]⟩,
   ⟨some 9, .mv (.t 39), none, false, false, [39]⟩])
  (.seq (.seq (.ops 8 false [⟨some 40, .mv (.t 9), none, false, false, [9]⟩,
   ⟨some 41, .not (.t 40), none, false, false, [40]⟩])
  (.cond (.t 41)
   (.ret)
   (.skip)))
  (.seq (.ops 9 false [⟨some 42, .mv (.t 1), none, false, false, []⟩,
   ⟨some 43, .mv (.t 8), none, false, false, []⟩,
   ⟨some 44, .mv (.t 5), none, false, false, []⟩,
   ⟨some 45, .mv (.t 8), none, false, false, []⟩,
   ⟨some 46, .look (.int .i64 0) false (.t 44) (.t 45), none, false, false, [44, 45]⟩,
   ⟨some 47, .call (.t 42) [.t 43, .t 46], none, false, false, [42, 43, 46, 47]⟩])
  (.seq (.seq (.ops 10 false [⟨some 48, .mv (.t 0), none, false, false, []⟩,
   ⟨some 49, .nilc (.t 48), none, false, false, [48]⟩,
   ⟨some 50, .fa 1 (.t 49), none, false, false, [49]⟩,
   ⟨some 51, .ld none [] (.t 50), none, false, false, [50]⟩,
   ⟨some 52, .mv (.t 8), none, false, false, []⟩,
   ⟨some 53, .look (.nils) false (.t 51) (.t 52), none, false, false, [51, 52]⟩,
   ⟨some 54, .len (.t 53), none, false, false, []⟩,
   ⟨some 55, .mv (.c (.int .i64 0)), none, false, false, []⟩])
  (.block 2 (.loop [0, 1, 4, 5, 8, 53, 54, 55] (.seq (.ops 11 false [⟨some 56, .bin .lss (.t 55) (.t 54), none, false, false, []⟩])
    (.seq (.cond (.t 56)
     (.skip)
     (.exit 2))
    (.seq (.block 3 (.seq (.ops 12 false [⟨some 57, .ia 1 [.int .i64 0] (.t 53) (.t 55), none, false, false, []⟩,
      ⟨some 58, .ld none [.int .i64 0] (.t 57), none, false, false, [57]⟩,
      ⟨some 11, .mv (.t 58), none, false, false, [58]⟩])
     (.seq (.ops 13 false [⟨some 59, .mv (.t 5), none, false, false, []⟩,
      ⟨some 60, .mv (.t 11), none, false, false, []⟩,
      ⟨some 61, .mv (.t 5), none, false, false, []⟩,
      ⟨some 62, .mv (.t 11), none, false, false, []⟩,
      ⟨some 63, .look (.int .i64 0) false (.t 61) (.t 62), none, false, false, [61, 62]⟩,
      ⟨some 64, .mv (.t 5), none, false, false, []⟩,
      ⟨some 65, .mv (.t 8), none, false, false, []⟩,
      ⟨some 66, .look (.int .i64 0) false (.t 64) (.t 65), none, false, false, [64, 65]⟩,
      ⟨some 67, .bin .add (.t 66) (.c (.int .i64 1)), none, false, false, [66]⟩,
      ⟨some 68, .mx [.t 63, .t 67], none, false, false, [63, 67]⟩,
      ⟨none, .mapup (.t 59) (.t 60) (.t 68), none, false, false, [59, 60, 68]⟩])
     (.seq (.ops 14 false [⟨some 69, .mv (.t 0), none, false, false, []⟩,
      ⟨some 70, .nilc (.t 69), none, false, false, [69]⟩,
      ⟨some 71, .fa 2 (.t 70), none, false, false, [70]⟩,
      ⟨some 72, .ld none [] (.t 71), none, false, false, [71]⟩,
      ⟨some 73, .mv (.t 11), none, false, false, []⟩,
      ⟨some 74, .look (.int .i64 0) false (.t 72) (.t 73), none, false, false, []⟩,
      ⟨some 75, .bin .sub (.t 74) (.c (.int .i64 1)), none, false, false, [74]⟩,
      ⟨none, .mapup (.t 72) (.t 73) (.t 75), none, false, false, [72, 73, 75]⟩])
     (.seq (.ops 15 false [⟨some 76, .mv (.t 0), none, false, false, []⟩,
      ⟨some 77, .nilc (.t 76), none, false, false, [76]⟩,
      ⟨some 78, .fa 2 (.t 77), none, false, false, [77]⟩,
      ⟨some 79, .ld none [] (.t 78), none, false, false, [78]⟩,
      ⟨some 80, .mv (.t 11), none, false, false, []⟩,
      ⟨some 81, .look (.int .i64 0) false (.t 79) (.t 80), none, false, false, [79, 80]⟩,
      ⟨some 82, .bin .eql (.t 81) (.c (.int .i64 0)), none, false, false, [81]⟩])
     (.cond (.t 82)
      (.ops 16 false [⟨some 83, .mv (.t 4), none, false, false, []⟩,
       ⟨some 84, .mv (.t 11), none, false, false, []⟩,
       ⟨some 85, .mv (.t 11), none, false, false, [11]⟩,
       ⟨some 86, .call (.c (.fn 260 [] [])) [.t 83, .t 84, .c (.int .i64 0), .t 85], none, false, false, [83, 84, 85, 86]⟩])
      (.skip)))))))
    (.ops 17 false [⟨some 87, .bin .add (.t 55) (.c (.int .i64 1)), none, false, false, [55]⟩,
     ⟨some 55, .mv (.t 87), none, false, false, [87]⟩])))))))
  (.goto 0)))))
def rs_graph_web_order : List IRes := []
theorem ok_graph_web_order : fnOk Try.prog 208 ic_graph_web_order rs_graph_web_order 88 = true := by kernel_rfl

/-- tallyman/graph.Order$1 -/
def ic_graph_Order_1 : ICode :=
 .ops 0 false [⟨some 5, .ld none [] (.t 2), none, false, false, []⟩,
  ⟨some 6, .mv (.t 0), none, false, false, [0]⟩,
  ⟨some 7, .rowView 1 [.t 6], none, false, false, [6]⟩,
  ⟨some 8, .app 1 (.t 5) (.t 7), none, false, false, [5, 7]⟩,
  ⟨none, .st 1 (.t 2) (.t 8), none, false, false, [2, 8]⟩]
def rs_graph_Order_1 : List IRes := []
theorem ok_graph_Order_1 : fnOk Try.prog 209 ic_graph_Order_1 rs_graph_Order_1 9 = true := by kernel_rfl

/-- tallyman/graph.Order -/
def ic_graph_Order : ICode :=
 .seq (.ops 0 false [⟨some 4, .mv (.c (.nils)), none, false, false, [4]⟩,
  ⟨some 5, .mv (.c (.bool false)), none, false, false, [5]⟩])
 (.seq (.ops 1 false [⟨some 6, .alloc [.nils], none, false, false, []⟩])
 (.seq (.ops 2 false [⟨some 8, .mv (.t 0), none, false, false, [0]⟩,
  ⟨some 9, .mv (.t 1), none, false, false, [1]⟩,
  ⟨some 10, .call (.c (.fn 207 [] [])) [.t 8, .t 9], none, false, false, [8, 9]⟩,
  ⟨some 7, .mv (.t 10), none, false, false, [10]⟩])
 (.seq (.ops 3 false [⟨some 11, .mv (.t 7), none, false, false, []⟩,
  ⟨some 12, .mkfn 209 [] [.t 6], none, false, false, []⟩,
  ⟨some 13, .call (.c (.fn 208 [] [])) [.t 11, .t 12], none, false, false, [11, 12, 13]⟩])
 (.seq (.ops 4 true [⟨some 14, .ld none [] (.t 6), none, false, false, []⟩,
  ⟨some 15, .ld none [] (.t 6), none, false, false, [6]⟩,
  ⟨some 16, .len (.t 15), none, false, false, [15]⟩,
  ⟨some 17, .mv (.t 7), none, false, false, [7]⟩,
  ⟨some 18, .nilc (.t 17), none, false, false, [17]⟩,
  ⟨some 19, .fa 0 (.t 18), none, false, false, [18]⟩,
  ⟨some 20, .ld none [] (.t 19), none, false, false, [19]⟩,
  ⟨some 21, .len (.t 20), none, false, false, [20]⟩,
  ⟨some 22, .bin .eql (.t 16) (.t 21), none, false, false, [16, 21]⟩,
  ⟨some 4, .mv (.t 14), none, false, false, [14]⟩,
  ⟨some 5, .mv (.t 22), none, false, false, [22]⟩])
 (.ret)))))
def rs_graph_Order : List IRes := [.t 4, .t 5]
theorem ok_graph_Order : fnOk Try.prog 118 ic_graph_Order rs_graph_Order 23 = true := by kernel_rfl

/-- tallyman/tallymanref16.free -/
def ic_r16_free : ICode :=
 .seq (.ops 0 false [⟨some 8, .mv (.c (.bool false)), none, false, false, [8]⟩])
 (.seq (.seq (.ops 1 false [⟨some 9, .mv (.c (.int .i64 0)), none, false, false, []⟩])
 (.block 0 (.loop [0, 1, 2, 3, 9] (.seq (.seq (.ops 2 false [⟨some 10, .mv (.t 9), none, false, false, []⟩,
    ⟨some 11, .mv (.t 1), none, false, false, []⟩,
    ⟨some 12, .len (.t 11), none, false, false, [11]⟩,
    ⟨some 13, .bin .lss (.t 10) (.t 12), none, false, false, [10, 12]⟩])
   (.cond (.t 13)
    (.skip)
    (.exit 0)))
   (.seq (.block 1 (.seq (.ops 4 false [⟨some 16, .mv (.t 1), none, false, false, []⟩,
     ⟨some 17, .mv (.t 9), none, false, false, []⟩,
     ⟨some 18, .ia 2 [.int .i64 0, .int .i64 0] (.t 16) (.t 17), none, false, false, [16, 17]⟩,
     ⟨some 19, .fa 1 (.t 18), none, false, false, [18]⟩,
     ⟨some 20, .ld none [.int .i64 0, .int .i64 0] (.t 19), none, false, false, [19]⟩,
     ⟨some 21, .mv (.t 3), none, false, false, []⟩,
     ⟨some 22, .bin .eql (.t 20) (.t 21), none, false, false, [20, 21]⟩,
     ⟨some 23, .mv (.t 22), none, false, false, [22]⟩,
     ⟨some 24, .mv (.t 0), (some (23, true)), true, false, []⟩,
     ⟨some 25, .mv (.t 1), (some (23, true)), true, false, []⟩,
     ⟨some 26, .mv (.t 9), (some (23, true)), true, false, []⟩,
     ⟨some 27, .ia 2 [.int .i64 0, .int .i64 0] (.o 25) (.o 26), (some (23, true)), true, false, [25, 26]⟩,
     ⟨some 28, .fa 0 (.o 27), (some (23, true)), true, false, [27]⟩,
     ⟨some 29, .ld none [.int .i64 0, .int .i64 0] (.o 28), (some (23, true)), true, false, [28]⟩,
     ⟨some 30, .call (.c (.fn 52 [] [])) [.o 24, .o 29], (some (23, true)), true, false, [24, 29]⟩,
     ⟨some 31, .pick (.t 23) (.t 30) (.c (.bool false)), none, false, false, [23, 30]⟩,
     ⟨some 32, .mv (.t 31), none, false, false, [31]⟩,
     ⟨some 33, .mv (.t 2), (some (32, true)), true, false, []⟩,
     ⟨some 34, .mv (.t 1), (some (32, true)), true, false, []⟩,
     ⟨some 35, .mv (.t 9), (some (32, true)), true, false, []⟩,
     ⟨some 36, .ia 2 [.int .i64 0, .int .i64 0] (.o 34) (.o 35), (some (32, true)), true, false, [34, 35]⟩,
     ⟨some 37, .fa 0 (.o 36), (some (32, true)), true, false, [36]⟩,
     ⟨some 38, .ld none [.int .i64 0, .int .i64 0] (.o 37), (some (32, true)), true, false, [37]⟩,
     ⟨some 39, .call (.c (.fn 52 [] [])) [.o 33, .o 38], (some (32, true)), true, false, [33, 38]⟩,
     ⟨some 40, .not (.o 39), (some (32, true)), true, false, [39]⟩,
     ⟨some 41, .pick (.t 32) (.t 40) (.c (.bool false)), none, false, false, [32, 40]⟩])
    (.cond (.t 41)
     (.seq (.ops 5 false [⟨some 8, .mv (.c (.bool false)), none, false, false, []⟩])
     (.ret))
     (.skip))))
   (.ops 3 false [⟨some 14, .mv (.t 9), none, false, false, [9]⟩,
    ⟨some 15, .bin .add (.t 14) (.c (.int .i64 1)), none, false, false, [14]⟩,
    ⟨some 9, .mv (.t 15), none, false, false, [15]⟩]))))))
 (.seq (.ops 6 false [⟨some 8, .mv (.c (.bool true)), none, false, false, []⟩])
 (.ret)))
def rs_r16_free : List IRes := [.t 8]
theorem ok_r16_free : fnOk Try.prog 262 ic_r16_free rs_r16_free 42 = true := by kernel_rfl

/-- tallyman/tallymanref16.Order -/
def ic_r16_Order : ICode :=
 .seq (.ops 0 false [⟨some 4, .mv (.c (.nils)), none, false, false, [4]⟩,
  ⟨some 5, .mv (.c (.bool false)), none, false, false, [5]⟩])
 (.seq (.ops 1 false [⟨some 9, .mv (.t 0), none, false, false, [0]⟩,
  ⟨some 10, .call (.c (.fn 210 [] [])) [.t 9], none, false, false, [9]⟩,
  ⟨some 6, .mv (.t 10), none, false, false, [10]⟩])
 (.seq (.ops 2 false [⟨some 7, .mv (.c (.nils)), none, false, false, []⟩])
 (.seq (.seq (.ops 3 false [⟨some 8, .mv (.c (.int .i64 0)), none, false, false, []⟩])
 (.block 0 (.loop [1, 6, 7, 8] (.seq (.seq (.ops 4 false [⟨some 11, .mv (.t 8), none, false, false, []⟩,
    ⟨some 12, .mv (.t 6), none, false, false, []⟩,
    ⟨some 13, .len (.t 12), none, false, false, [12]⟩,
    ⟨some 14, .bin .lss (.t 11) (.t 13), none, false, false, [11, 13]⟩])
   (.cond (.t 14)
    (.skip)
    (.exit 0)))
   (.block 1 (.seq (.seq (.ops 5 false [⟨some 15, .mv (.t 7), none, false, false, []⟩,
     ⟨some 16, .mv (.t 6), none, false, false, []⟩,
     ⟨some 17, .mv (.t 8), none, false, false, []⟩,
     ⟨some 18, .ia 1 [.int .i64 0] (.t 16) (.t 17), none, false, false, [16, 17]⟩,
     ⟨some 19, .ld none [.int .i64 0] (.t 18), none, false, false, [18]⟩,
     ⟨some 20, .call (.c (.fn 52 [] [])) [.t 15, .t 19], none, false, false, [15, 19]⟩,
     ⟨some 21, .mv (.t 20), none, false, false, [20]⟩,
     ⟨some 22, .mv (.t 6), (some (21, false)), true, false, []⟩,
     ⟨some 23, .mv (.t 1), (some (21, false)), true, false, []⟩,
     ⟨some 24, .mv (.t 7), (some (21, false)), true, false, []⟩,
     ⟨some 25, .mv (.t 6), (some (21, false)), true, false, []⟩,
     ⟨some 26, .mv (.t 8), (some (21, false)), true, false, []⟩,
     ⟨some 27, .ia 1 [.int .i64 0] (.o 25) (.o 26), (some (21, false)), true, false, [25, 26]⟩,
     ⟨some 28, .ld none [.int .i64 0] (.o 27), (some (21, false)), true, false, [27]⟩,
     ⟨some 29, .call (.c (.fn 262 [] [])) [.o 22, .o 23, .o 24, .o 28], (some (21, false)), true, false, [22, 23, 24, 28]⟩,
     ⟨some 30, .not (.o 29), (some (21, false)), true, false, [29]⟩,
     ⟨some 31, .pick (.t 21) (.c (.bool true)) (.t 30), none, false, false, [21, 30]⟩])
    (.cond (.t 31)
     (.seq (.ops 6 false [⟨some 32, .mv (.t 8), none, false, false, [8]⟩,
      ⟨some 33, .bin .add (.t 32) (.c (.int .i64 1)), none, false, false, [32]⟩,
      ⟨some 8, .mv (.t 33), none, false, false, [33]⟩])
     (.exit 1))
     (.skip)))
    (.seq (.ops 7 false [⟨some 34, .mv (.t 7), none, false, false, [7]⟩,
     ⟨some 35, .mv (.t 6), none, false, false, []⟩,
     ⟨some 36, .mv (.t 8), none, false, false, [8]⟩,
     ⟨some 37, .ia 1 [.int .i64 0] (.t 35) (.t 36), none, false, false, [35, 36]⟩,
     ⟨some 38, .ld none [.int .i64 0] (.t 37), none, false, false, [37]⟩,
     ⟨some 39, .rowView 1 [.t 38], none, false, false, [38]⟩,
     ⟨some 40, .app 1 (.t 34) (.t 39), none, false, false, [34, 39]⟩,
     ⟨some 7, .mv (.t 40), none, false, false, [40]⟩])
    (.ops 8 false [⟨some 8, .mv (.c (.int .i64 0)), none, false, false, []⟩]))))))))
 (.seq (.ops 9 false [⟨some 41, .mv (.t 7), none, false, false, []⟩,
  ⟨some 42, .mv (.t 7), none, false, false, [7]⟩,
  ⟨some 43, .len (.t 42), none, false, false, [42]⟩,
  ⟨some 44, .mv (.t 6), none, false, false, [6]⟩,
  ⟨some 45, .len (.t 44), none, false, false, [44]⟩,
  ⟨some 46, .bin .eql (.t 43) (.t 45), none, false, false, [43, 45]⟩,
  ⟨some 4, .mv (.t 41), none, false, false, [41]⟩,
  ⟨some 5, .mv (.t 46), none, false, false, [46]⟩])
 (.ret)))))
def rs_r16_Order : List IRes := [.t 4, .t 5]
theorem ok_r16_Order : fnOk Try.prog 211 ic_r16_Order rs_r16_Order 47 = true := by kernel_rfl

/-- tallyman/tallymanref16.Left -/
def ic_r16_Left : ICode :=
 .seq (.ops 0 false [⟨some 4, .mv (.c (.nils)), none, false, false, [4]⟩])
 (.seq (.ops 1 false [⟨some 10, .mv (.t 0), none, false, false, []⟩,
  ⟨some 11, .call (.c (.fn 210 [] [])) [.t 10], none, false, false, [10]⟩,
  ⟨some 5, .mv (.t 11), none, false, false, [11]⟩])
 (.seq (.ops 2 false [⟨some 13, .mv (.t 0), none, false, false, [0]⟩,
  ⟨some 14, .mv (.t 1), none, false, false, [1]⟩,
  ⟨some 15, .call (.c (.fn 211 [] [])) [.t 13, .t 14], none, false, false, [13, 14]⟩,
  ⟨some 12, .mv (.t 15), none, false, false, [15]⟩,
  ⟨some 16, .ext 0 (.t 12), none, false, false, []⟩,
  ⟨some 17, .ext 1 (.t 12), none, false, false, [12]⟩,
  ⟨some 6, .mv (.t 16), none, false, false, [16]⟩,
  ⟨some 7, .mv (.t 17), none, false, false, [7, 17]⟩])
 (.seq (.ops 3 false [⟨some 8, .mv (.c (.nils)), none, false, false, []⟩])
 (.seq (.seq (.ops 4 false [⟨some 9, .mv (.c (.int .i64 0)), none, false, false, []⟩])
 (.block 0 (.loop [5, 6, 8, 9] (.seq (.seq (.ops 5 false [⟨some 18, .mv (.t 9), none, false, false, []⟩,
    ⟨some 19, .mv (.t 5), none, false, false, []⟩,
    ⟨some 20, .len (.t 19), none, false, false, [19]⟩,
    ⟨some 21, .bin .lss (.t 18) (.t 20), none, false, false, [18, 20]⟩])
   (.cond (.t 21)
    (.skip)
    (.exit 0)))
   (.seq (.block 1 (.seq (.ops 7 false [⟨some 24, .mv (.t 6), none, false, false, []⟩,
     ⟨some 25, .mv (.t 5), none, false, false, []⟩,
     ⟨some 26, .mv (.t 9), none, false, false, []⟩,
     ⟨some 27, .ia 1 [.int .i64 0] (.t 25) (.t 26), none, false, false, [25, 26]⟩,
     ⟨some 28, .ld none [.int .i64 0] (.t 27), none, false, false, [27]⟩,
     ⟨some 29, .call (.c (.fn 52 [] [])) [.t 24, .t 28], none, false, false, [24, 28]⟩,
     ⟨some 30, .not (.t 29), none, false, false, [29]⟩])
    (.cond (.t 30)
     (.ops 8 false [⟨some 31, .mv (.t 8), none, false, false, [8]⟩,
      ⟨some 32, .mv (.t 5), none, false, false, []⟩,
      ⟨some 33, .mv (.t 9), none, false, false, []⟩,
      ⟨some 34, .ia 1 [.int .i64 0] (.t 32) (.t 33), none, false, false, [32, 33]⟩,
      ⟨some 35, .ld none [.int .i64 0] (.t 34), none, false, false, [34]⟩,
      ⟨some 36, .rowView 1 [.t 35], none, false, false, [35]⟩,
      ⟨some 37, .app 1 (.t 31) (.t 36), none, false, false, [31, 36]⟩,
      ⟨some 8, .mv (.t 37), none, false, false, [37]⟩])
     (.skip))))
   (.ops 6 false [⟨some 22, .mv (.t 9), none, false, false, [9]⟩,
    ⟨some 23, .bin .add (.t 22) (.c (.int .i64 1)), none, false, false, [22]⟩,
    ⟨some 9, .mv (.t 23), none, false, false, [23]⟩]))))))
 (.seq (.ops 9 false [⟨some 38, .mv (.t 8), none, false, false, [8]⟩,
  ⟨some 4, .mv (.t 38), none, false, false, [38]⟩])
 (.ret))))))
def rs_r16_Left : List IRes := [.t 4]
theorem ok_r16_Left : fnOk Try.prog 119 ic_r16_Left rs_r16_Left 39 = true := by kernel_rfl

end Go.Proofs.Ytnjpfoblmomnlaa.Sx
