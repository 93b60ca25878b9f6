/- Functions of the seat in the small language. No conditions: a kit of our own. -/
import Derived.Test.YtnjpfoblmomnlaaProg
import Derived.Test.YtnjpfoblmomnlaaSx17
namespace Go.Proofs.Ytnjpfoblmomnlaa.Sx
open Go Go.RowKit
set_option linter.unusedVariables false

/-- (tallyman/heap.thing).ahead -/
def ic_heap_thing_ahead : ICode :=
 .seq (.ops 0 false [⟨some 2, .box (.t 0), none, false, false, [0]⟩,
  ⟨some 3, .box (.t 1), none, false, false, [1]⟩,
  ⟨some 4, .mv (.c (.bool false)), none, false, false, [4]⟩])
 (.seq (.ops 1 true [⟨some 5, .fa 1 (.t 3), none, false, false, []⟩,
  ⟨some 6, .ld none [] (.t 5), none, false, false, [5]⟩,
  ⟨some 7, .fa 1 (.t 2), none, false, false, []⟩,
  ⟨some 8, .ld none [] (.t 7), none, false, false, [7]⟩,
  ⟨some 9, .call (.c (.fn 309 [] [])) [.t 6, .t 8], none, false, false, [6, 8]⟩,
  ⟨some 10, .fa 2 (.t 2), none, false, false, []⟩,
  ⟨some 11, .ld none [] (.t 10), none, false, false, [10]⟩,
  ⟨some 12, .fa 2 (.t 3), none, false, false, []⟩,
  ⟨some 13, .ld none [] (.t 12), none, false, false, [12]⟩,
  ⟨some 14, .call (.c (.fn 309 [] [])) [.t 11, .t 13], none, false, false, [11, 13]⟩,
  ⟨some 15, .fa 0 (.t 2), none, false, false, [2]⟩,
  ⟨some 16, .ld none [] (.t 15), none, false, false, [15]⟩,
  ⟨some 17, .fa 0 (.t 3), none, false, false, [3]⟩,
  ⟨some 18, .ld none [] (.t 17), none, false, false, [17]⟩,
  ⟨some 19, .call (.c (.fn 309 [] [])) [.t 16, .t 18], none, false, false, [16, 18]⟩,
  ⟨some 20, .rowView 1 [.t 9, .t 14, .t 19], none, false, false, [9, 14, 19]⟩,
  ⟨some 21, .call (.c (.fn 308 [] [])) [.t 20], none, false, false, [20]⟩,
  ⟨some 22, .bin .lss (.t 21) (.c (.int .i64 0)), none, false, false, [21]⟩,
  ⟨some 4, .mv (.t 22), none, false, false, [22]⟩])
 (.ret))
def rs_heap_thing_ahead : List IRes := [.t 4]
theorem ok_heap_thing_ahead : fnOk Try.prog 306 ic_heap_thing_ahead rs_heap_thing_ahead 23 = true := by kernel_rfl

/-- cmp.Or(int) -/
def ic_cmp_Or_int : ICode :=
 .seq (.ops 0 false [⟨some 2, .mv (.c (.int .i64 0)), none, false, false, [2]⟩])
 (.seq (.ops 1 false [⟨some 3, .mv (.c (.int .i64 0)), none, false, false, []⟩])
 (.seq (.seq (.ops 2 false [⟨some 6, .mv (.t 0), none, false, false, [0]⟩,
  ⟨some 7, .len (.t 6), none, false, false, []⟩,
  ⟨some 8, .mv (.c (.int .i64 0)), none, false, false, []⟩])
 (.block 0 (.loop [3, 6, 7, 8] (.seq (.ops 3 false [⟨some 9, .bin .lss (.t 8) (.t 7), none, false, false, []⟩])
   (.seq (.cond (.t 9)
    (.skip)
    (.exit 0))
   (.seq (.block 1 (.seq (.ops 4 false [⟨some 10, .ia 1 [.int .i64 0] (.t 6) (.t 8), none, false, false, []⟩,
     ⟨some 11, .ld none [.int .i64 0] (.t 10), none, false, false, [10]⟩,
     ⟨some 5, .mv (.t 11), none, false, false, [11]⟩])
    (.seq (.ops 5 false [⟨some 12, .mv (.t 5), none, false, false, []⟩,
     ⟨some 13, .mv (.t 3), none, false, false, []⟩,
     ⟨some 14, .bin .neq (.t 12) (.t 13), none, false, false, [12, 13]⟩])
    (.cond (.t 14)
     (.seq (.ops 6 false [⟨some 15, .mv (.t 5), none, false, false, [5]⟩,
      ⟨some 2, .mv (.t 15), none, false, false, [15]⟩])
     (.ret))
     (.skip)))))
   (.ops 7 false [⟨some 16, .bin .add (.t 8) (.c (.int .i64 1)), none, false, false, [8]⟩,
    ⟨some 8, .mv (.t 16), none, false, false, [16]⟩])))))))
 (.seq (.ops 8 false [⟨some 17, .mv (.t 3), none, false, false, [3]⟩,
  ⟨some 2, .mv (.t 17), none, false, false, [17]⟩])
 (.ret))))
def rs_cmp_Or_int : List IRes := [.t 2]
theorem ok_cmp_Or_int : fnOk Try.prog 308 ic_cmp_Or_int rs_cmp_Or_int 18 = true := by kernel_rfl

/-- cmp.Compare(int) -/
def ic_cmp_Compare_int : ICode :=
 .seq (.ops 0 false [⟨some 4, .mv (.c (.int .i64 0)), none, false, false, [4]⟩])
 (.seq (.ops 1 false [⟨some 7, .mv (.t 0), none, false, false, []⟩,
  ⟨some 8, .call (.c (.fn 299 [] [])) [.t 7], none, false, false, [7]⟩,
  ⟨some 5, .mv (.t 8), none, false, false, [8]⟩])
 (.seq (.ops 2 false [⟨some 9, .mv (.t 1), none, false, false, []⟩,
  ⟨some 10, .call (.c (.fn 299 [] [])) [.t 9], none, false, false, [9]⟩,
  ⟨some 6, .mv (.t 10), none, false, false, [10]⟩])
 (.seq (.seq (.ops 3 false [⟨some 11, .mv (.t 5), none, false, false, [5]⟩])
 (.cond (.t 11)
  (.seq (.seq (.ops 4 false [⟨some 12, .mv (.t 6), none, false, false, [6]⟩])
  (.cond (.t 12)
   (.seq (.ops 5 false [⟨some 4, .mv (.c (.int .i64 0)), none, false, false, []⟩])
   (.ret))
   (.skip)))
  (.seq (.ops 6 false [⟨some 4, .mv (.c (.int .i64 (-1))), none, false, false, []⟩])
  (.ret)))
  (.skip)))
 (.seq (.seq (.ops 7 false [⟨some 13, .mv (.t 6), none, false, false, [6]⟩])
 (.cond (.t 13)
  (.seq (.ops 8 false [⟨some 4, .mv (.c (.int .i64 1)), none, false, false, []⟩])
  (.ret))
  (.skip)))
 (.seq (.seq (.ops 9 false [⟨some 14, .mv (.t 0), none, false, false, []⟩,
  ⟨some 15, .mv (.t 1), none, false, false, []⟩,
  ⟨some 16, .bin .lss (.t 14) (.t 15), none, false, false, [14, 15]⟩])
 (.cond (.t 16)
  (.seq (.ops 10 false [⟨some 4, .mv (.c (.int .i64 (-1))), none, false, false, []⟩])
  (.ret))
  (.skip)))
 (.seq (.seq (.ops 11 false [⟨some 17, .mv (.t 0), none, false, false, [0]⟩,
  ⟨some 18, .mv (.t 1), none, false, false, [1]⟩,
  ⟨some 19, .bin .gtr (.t 17) (.t 18), none, false, false, [17, 18]⟩])
 (.cond (.t 19)
  (.seq (.ops 12 false [⟨some 4, .mv (.c (.int .i64 1)), none, false, false, []⟩])
  (.ret))
  (.skip)))
 (.seq (.ops 13 false [⟨some 4, .mv (.c (.int .i64 0)), none, false, false, []⟩])
 (.ret))))))))
def rs_cmp_Compare_int : List IRes := [.t 4]
theorem ok_cmp_Compare_int : fnOk Try.prog 309 ic_cmp_Compare_int rs_cmp_Compare_int 20 = true := by kernel_rfl

/-- cmp.isNaN(int) -/
def ic_cmp_isNaN_int : ICode :=
 .seq (.ops 0 false [⟨some 2, .mv (.c (.bool false)), none, false, false, [2]⟩])
 (.seq (.ops 1 false [⟨some 3, .mv (.t 0), none, false, false, []⟩,
  ⟨some 4, .mv (.t 0), none, false, false, [0]⟩,
  ⟨some 5, .bin .neq (.t 3) (.t 4), none, false, false, [3, 4]⟩,
  ⟨some 2, .mv (.t 5), none, false, false, [5]⟩])
 (.ret))
def rs_cmp_isNaN_int : List IRes := [.t 2]
theorem ok_cmp_isNaN_int : fnOk Try.prog 299 ic_cmp_isNaN_int rs_cmp_isNaN_int 6 = true := by kernel_rfl

/-- (*tallyman/heap.Heap).set -/
def ic_heap_Heap_set : ICode :=
 .seq (.ops 0 false [⟨some 5, .box (.t 2), none, false, false, [2]⟩])
 (.seq (.ops 1 true [⟨some 6, .mv (.t 0), none, false, false, []⟩,
  ⟨some 7, .nilc (.t 6), none, false, false, [6]⟩,
  ⟨some 8, .fa 0 (.t 7), none, false, false, [7]⟩,
  ⟨some 9, .ld none [] (.t 8), none, false, false, [8]⟩,
  ⟨some 10, .mv (.t 1), none, false, false, []⟩,
  ⟨some 11, .ld (some 3) [] (.t 5), none, false, false, []⟩,
  ⟨some 12, .ia 3 [.int .i64 0, .int .i64 0, .int .i64 0] (.t 9) (.t 10), none, false, false, [9, 10]⟩,
  ⟨none, .st 3 (.t 12) (.t 11), none, false, false, [11, 12]⟩])
 (.ops 2 true [⟨some 13, .mv (.t 0), none, false, false, [0]⟩,
  ⟨some 14, .nilc (.t 13), none, false, false, [13]⟩,
  ⟨some 15, .fa 1 (.t 14), none, false, false, [14]⟩,
  ⟨some 16, .ld none [] (.t 15), none, false, false, [15]⟩,
  ⟨some 17, .fa 0 (.t 5), none, false, false, [5]⟩,
  ⟨some 18, .ld none [] (.t 17), none, false, false, [17]⟩,
  ⟨some 19, .mv (.t 1), none, false, false, [1]⟩,
  ⟨none, .mapup (.t 16) (.t 18) (.t 19), none, false, false, [16, 18, 19]⟩]))
def rs_heap_Heap_set : List IRes := []
theorem ok_heap_Heap_set : fnOk Try.prog 307 ic_heap_Heap_set rs_heap_Heap_set 20 = true := by kernel_rfl

/-- (*tallyman/heap.Heap).up -/
def ic_heap_Heap_up : ICode :=
 .seq (.ops 0 false [⟨some 5, .box (.t 2), none, false, false, [2]⟩,
  ⟨some 6, .mv (.c (.int .i64 0)), none, false, false, [6]⟩])
 (.back [0, 1, 5] (.label 0) 0
  (.seq (.ops 1 false [⟨some 8, .mv (.t 1), none, false, false, []⟩,
   ⟨some 9, .bin .sub (.t 8) (.c (.int .i64 1)), none, false, false, [8]⟩,
   ⟨some 10, .bin .quo (.t 9) (.c (.int .i64 2)), none, false, false, [9]⟩,
   ⟨some 7, .mv (.t 10), none, false, false, [10]⟩])
  (.seq (.seq (.ops 2 true [⟨some 11, .mv (.t 1), none, false, false, []⟩,
   ⟨some 12, .bin .gtr (.t 11) (.c (.int .i64 0)), none, false, false, [11]⟩,
   ⟨some 13, .mv (.t 12), none, false, false, [12]⟩,
   ⟨some 14, .ld (some 3) [] (.t 5), (some (13, true)), true, false, []⟩,
   ⟨some 15, .mv (.t 0), (some (13, true)), true, false, []⟩,
   ⟨some 16, .nilc (.o 15), (some (13, true)), true, false, [15]⟩,
   ⟨some 17, .fa 0 (.o 16), (some (13, true)), true, false, [16]⟩,
   ⟨some 18, .ld none [] (.o 17), (some (13, true)), true, false, [17]⟩,
   ⟨some 19, .mv (.t 7), (some (13, true)), true, false, []⟩,
   ⟨some 20, .ia 3 [.int .i64 0, .int .i64 0, .int .i64 0] (.o 18) (.o 19), (some (13, true)), true, false, [18, 19]⟩,
   ⟨some 21, .ld (some 3) [.int .i64 0, .int .i64 0, .int .i64 0] (.o 20), (some (13, true)), true, false, [20]⟩,
   ⟨some 22, .call (.c (.fn 306 [] [])) [.o 14, .o 21], (some (13, true)), true, false, [14, 21]⟩,
   ⟨some 23, .pick (.t 13) (.t 22) (.c (.bool false)), none, false, false, [13, 22]⟩])
  (.cond (.t 23)
   (.seq (.ops 3 false [⟨some 24, .mv (.t 0), none, false, false, []⟩,
    ⟨some 25, .mv (.t 1), none, false, false, [1]⟩,
    ⟨some 26, .mv (.t 0), none, false, false, []⟩,
    ⟨some 27, .nilc (.t 26), none, false, false, [26]⟩,
    ⟨some 28, .fa 0 (.t 27), none, false, false, [27]⟩,
    ⟨some 29, .ld none [] (.t 28), none, false, false, [28]⟩,
    ⟨some 30, .mv (.t 7), none, false, false, []⟩,
    ⟨some 31, .ia 3 [.int .i64 0, .int .i64 0, .int .i64 0] (.t 29) (.t 30), none, false, false, [29, 30]⟩,
    ⟨some 32, .ld (some 3) [.int .i64 0, .int .i64 0, .int .i64 0] (.t 31), none, false, false, [31]⟩,
    ⟨some 33, .call (.c (.fn 307 [] [])) [.t 24, .t 25, .t 32], none, false, false, [24, 25, 32, 33]⟩])
   (.seq (.ops 4 false [⟨some 34, .mv (.t 7), none, false, false, [7]⟩,
    ⟨some 1, .mv (.t 34), none, false, false, [34]⟩])
   (.goto 0)))
   (.skip)))
  (.seq (.ops 5 false [⟨some 35, .mv (.t 0), none, false, false, [0]⟩,
   ⟨some 36, .mv (.t 1), none, false, false, []⟩,
   ⟨some 37, .ld (some 3) [] (.t 5), none, false, false, [5]⟩,
   ⟨some 38, .call (.c (.fn 307 [] [])) [.t 35, .t 36, .t 37], none, false, false, [35, 36, 37, 38]⟩])
  (.seq (.ops 6 false [⟨some 39, .mv (.t 1), none, false, false, [1]⟩,
   ⟨some 6, .mv (.t 39), none, false, false, [39]⟩])
  (.ret))))))
def rs_heap_Heap_up : List IRes := [.t 6]
theorem ok_heap_Heap_up : fnOk Try.prog 301 ic_heap_Heap_up rs_heap_Heap_up 40 = true := by kernel_rfl

/-- (*tallyman/heap.Heap).down -/
def ic_heap_Heap_down : ICode :=
 .seq (.ops 0 false [⟨some 5, .box (.t 2), none, false, false, [2]⟩])
 (.back [0, 1, 5] (.label 0) 0
  (.seq (.ops 1 false [⟨some 7, .mv (.t 1), none, false, false, []⟩,
   ⟨some 8, .bin .mul (.c (.int .i64 2)) (.t 7), none, false, false, [7]⟩,
   ⟨some 9, .bin .add (.t 8) (.c (.int .i64 1)), none, false, false, [8]⟩,
   ⟨some 6, .mv (.t 9), none, false, false, [9]⟩])
  (.seq (.seq (.ops 2 true [⟨some 10, .mv (.t 6), none, false, false, []⟩,
   ⟨some 11, .bin .add (.t 10) (.c (.int .i64 1)), none, false, false, [10]⟩,
   ⟨some 12, .mv (.t 0), none, false, false, []⟩,
   ⟨some 13, .nilc (.t 12), none, false, false, [12]⟩,
   ⟨some 14, .fa 0 (.t 13), none, false, false, [13]⟩,
   ⟨some 15, .ld none [] (.t 14), none, false, false, [14]⟩,
   ⟨some 16, .len (.t 15), none, false, false, [15]⟩,
   ⟨some 17, .bin .lss (.t 11) (.t 16), none, false, false, [11, 16]⟩,
   ⟨some 18, .mv (.t 17), none, false, false, [17]⟩,
   ⟨some 19, .mv (.t 0), (some (18, true)), true, false, []⟩,
   ⟨some 20, .nilc (.o 19), (some (18, true)), true, false, [19]⟩,
   ⟨some 21, .fa 0 (.o 20), (some (18, true)), true, false, [20]⟩,
   ⟨some 22, .ld none [] (.o 21), (some (18, true)), true, false, [21]⟩,
   ⟨some 23, .mv (.t 6), (some (18, true)), true, false, []⟩,
   ⟨some 24, .bin .add (.o 23) (.c (.int .i64 1)), (some (18, true)), true, false, [23]⟩,
   ⟨some 25, .ia 3 [.int .i64 0, .int .i64 0, .int .i64 0] (.o 22) (.o 24), (some (18, true)), true, false, [22, 24]⟩,
   ⟨some 26, .ld (some 3) [.int .i64 0, .int .i64 0, .int .i64 0] (.o 25), (some (18, true)), true, false, [25]⟩,
   ⟨some 27, .mv (.t 0), (some (18, true)), true, false, []⟩,
   ⟨some 28, .nilc (.o 27), (some (18, true)), true, false, [27]⟩,
   ⟨some 29, .fa 0 (.o 28), (some (18, true)), true, false, [28]⟩,
   ⟨some 30, .ld none [] (.o 29), (some (18, true)), true, false, [29]⟩,
   ⟨some 31, .mv (.t 6), (some (18, true)), true, false, []⟩,
   ⟨some 32, .ia 3 [.int .i64 0, .int .i64 0, .int .i64 0] (.o 30) (.o 31), (some (18, true)), true, false, [30, 31]⟩,
   ⟨some 33, .ld (some 3) [.int .i64 0, .int .i64 0, .int .i64 0] (.o 32), (some (18, true)), true, false, [32]⟩,
   ⟨some 34, .call (.c (.fn 306 [] [])) [.o 26, .o 33], (some (18, true)), true, false, [26, 33]⟩,
   ⟨some 35, .pick (.t 18) (.t 34) (.c (.bool false)), none, false, false, [18, 34]⟩])
  (.cond (.t 35)
   (.ops 3 false [⟨some 36, .mv (.t 6), none, false, false, [6]⟩,
    ⟨some 37, .bin .add (.t 36) (.c (.int .i64 1)), none, false, false, [36]⟩,
    ⟨some 6, .mv (.t 37), none, false, false, [37]⟩])
   (.skip)))
  (.seq (.seq (.ops 4 true [⟨some 38, .mv (.t 6), none, false, false, []⟩,
   ⟨some 39, .mv (.t 0), none, false, false, []⟩,
   ⟨some 40, .nilc (.t 39), none, false, false, [39]⟩,
   ⟨some 41, .fa 0 (.t 40), none, false, false, [40]⟩,
   ⟨some 42, .ld none [] (.t 41), none, false, false, [41]⟩,
   ⟨some 43, .len (.t 42), none, false, false, [42]⟩,
   ⟨some 44, .bin .lss (.t 38) (.t 43), none, false, false, [38, 43]⟩,
   ⟨some 45, .mv (.t 44), none, false, false, [44]⟩,
   ⟨some 46, .mv (.t 0), (some (45, true)), true, false, []⟩,
   ⟨some 47, .nilc (.o 46), (some (45, true)), true, false, [46]⟩,
   ⟨some 48, .fa 0 (.o 47), (some (45, true)), true, false, [47]⟩,
   ⟨some 49, .ld none [] (.o 48), (some (45, true)), true, false, [48]⟩,
   ⟨some 50, .mv (.t 6), (some (45, true)), true, false, []⟩,
   ⟨some 51, .ia 3 [.int .i64 0, .int .i64 0, .int .i64 0] (.o 49) (.o 50), (some (45, true)), true, false, [49, 50]⟩,
   ⟨some 52, .ld (some 3) [.int .i64 0, .int .i64 0, .int .i64 0] (.o 51), (some (45, true)), true, false, [51]⟩,
   ⟨some 53, .ld (some 3) [] (.t 5), (some (45, true)), true, false, []⟩,
   ⟨some 54, .call (.c (.fn 306 [] [])) [.o 52, .o 53], (some (45, true)), true, false, [52, 53]⟩,
   ⟨some 55, .pick (.t 45) (.t 54) (.c (.bool false)), none, false, false, [45, 54]⟩])
  (.cond (.t 55)
   (.seq (.ops 5 false [⟨some 56, .mv (.t 0), none, false, false, []⟩,
    ⟨some 57, .mv (.t 1), none, false, false, [1]⟩,
    ⟨some 58, .mv (.t 0), none, false, false, []⟩,
    ⟨some 59, .nilc (.t 58), none, false, false, [58]⟩,
    ⟨some 60, .fa 0 (.t 59), none, false, false, [59]⟩,
    ⟨some 61, .ld none [] (.t 60), none, false, false, [60]⟩,
    ⟨some 62, .mv (.t 6), none, false, false, []⟩,
    ⟨some 63, .ia 3 [.int .i64 0, .int .i64 0, .int .i64 0] (.t 61) (.t 62), none, false, false, [61, 62]⟩,
    ⟨some 64, .ld (some 3) [.int .i64 0, .int .i64 0, .int .i64 0] (.t 63), none, false, false, [63]⟩,
    ⟨some 65, .call (.c (.fn 307 [] [])) [.t 56, .t 57, .t 64], none, false, false, [56, 57, 64, 65]⟩])
   (.seq (.ops 6 false [⟨some 66, .mv (.t 6), none, false, false, [6]⟩,
    ⟨some 1, .mv (.t 66), none, false, false, [66]⟩])
   (.goto 0)))
   (.skip)))
  (.ops 7 false [⟨some 67, .mv (.t 0), none, false, false, [0]⟩,
   ⟨some 68, .mv (.t 1), none, false, false, [1]⟩,
   ⟨some 69, .ld (some 3) [] (.t 5), none, false, false, [5]⟩,
   ⟨some 70, .call (.c (.fn 307 [] [])) [.t 67, .t 68, .t 69], none, false, false, [67, 68, 69, 70]⟩])))))
def rs_heap_Heap_down : List IRes := []
theorem ok_heap_Heap_down : fnOk Try.prog 302 ic_heap_Heap_down rs_heap_Heap_down 71 = true := by kernel_rfl

/-- (*tallyman/heap.Heap).fix -/
def ic_heap_Heap_fix : ICode :=
 .seq (.ops 0 false [⟨some 5, .box (.t 2), none, false, false, [2]⟩])
 (.seq (.ops 1 false [⟨some 6, .mv (.t 0), none, false, false, []⟩,
  ⟨some 7, .mv (.t 1), none, false, false, []⟩,
  ⟨some 8, .ld (some 3) [] (.t 5), none, false, false, []⟩,
  ⟨some 9, .call (.c (.fn 301 [] [])) [.t 6, .t 7, .t 8], none, false, false, [6, 7, 8]⟩,
  ⟨some 10, .mv (.t 1), none, false, false, []⟩,
  ⟨some 11, .bin .eql (.t 9) (.t 10), none, false, false, [9, 10]⟩])
 (.cond (.t 11)
  (.ops 2 false [⟨some 12, .mv (.t 0), none, false, false, [0]⟩,
   ⟨some 13, .mv (.t 1), none, false, false, [1]⟩,
   ⟨some 14, .ld (some 3) [] (.t 5), none, false, false, [5]⟩,
   ⟨some 15, .call (.c (.fn 302 [] [])) [.t 12, .t 13, .t 14], none, false, false, [12, 13, 14, 15]⟩])
  (.skip)))
def rs_heap_Heap_fix : List IRes := []
theorem ok_heap_Heap_fix : fnOk Try.prog 288 ic_heap_Heap_fix rs_heap_Heap_fix 16 = true := by kernel_rfl

/-- (*tallyman/heap.Heap).Put -/
def ic_heap_Heap_Put : ICode :=
 .seq (.ops 0 false [⟨some 8, .mv (.c (.bool false)), none, false, false, [8]⟩])
 (.seq (.seq (.ops 1 false [⟨some 12, .mv (.t 0), none, false, false, []⟩,
  ⟨some 13, .eqnil false .p (.t 12), none, false, false, [12]⟩])
 (.cond (.t 13)
  (.seq (.ops 2 false [⟨some 8, .mv (.c (.bool false)), none, false, false, []⟩])
  (.ret))
  (.skip)))
 (.seq (.ops 3 false [⟨some 14, .mv (.t 1), none, false, false, []⟩,
  ⟨some 15, .mv (.t 2), none, false, false, [2]⟩,
  ⟨some 16, .mv (.t 3), none, false, false, [3]⟩,
  ⟨some 17, .build [.int .i64 0, .int .i64 0, .int .i64 0] [(0, 1, .t 14), (1, 1, .t 15), (2, 1, .t 16)], none, false, false, [14, 15, 16]⟩,
  ⟨some 9, .alloc [.int .i64 0, .int .i64 0, .int .i64 0], none, false, false, []⟩,
  ⟨none, .st 3 (.t 9) (.t 17), none, false, false, [17]⟩])
 (.seq (.ops 4 false [⟨some 19, .mv (.t 0), none, false, false, []⟩,
  ⟨some 20, .nilc (.t 19), none, false, false, [19]⟩,
  ⟨some 21, .fa 1 (.t 20), none, false, false, [20]⟩,
  ⟨some 22, .ld none [] (.t 21), none, false, false, [21]⟩,
  ⟨some 23, .mv (.t 1), none, false, false, [1]⟩,
  ⟨some 24, .look (.int .i64 0) true (.t 22) (.t 23), none, false, false, [22, 23]⟩,
  ⟨some 18, .mv (.t 24), none, false, false, [24]⟩,
  ⟨some 25, .ext 0 (.t 18), none, false, false, []⟩,
  ⟨some 26, .ext 1 (.t 18), none, false, false, [18]⟩,
  ⟨some 10, .mv (.t 25), none, false, false, [25]⟩,
  ⟨some 11, .mv (.t 26), none, false, false, [26]⟩])
 (.seq (.seq (.ops 5 false [⟨some 27, .mv (.t 11), none, false, false, []⟩,
  ⟨some 28, .not (.t 27), none, false, false, [27]⟩])
 (.cond (.t 28)
  (.seq (.ops 6 false [⟨some 29, .mv (.t 0), none, false, false, []⟩,
   ⟨some 30, .nilc (.t 29), none, false, false, [29]⟩,
   ⟨some 31, .fa 0 (.t 30), none, false, false, [30]⟩,
   ⟨some 32, .ld none [] (.t 31), none, false, false, [31]⟩,
   ⟨some 33, .len (.t 32), none, false, false, [32]⟩,
   ⟨some 10, .mv (.t 33), none, false, false, [33]⟩])
  (.ops 7 true [⟨some 34, .mv (.t 0), none, false, false, []⟩,
   ⟨some 35, .mv (.t 0), none, false, false, []⟩,
   ⟨some 36, .nilc (.t 35), none, false, false, [35]⟩,
   ⟨some 37, .fa 0 (.t 36), none, false, false, [36]⟩,
   ⟨some 38, .ld none [] (.t 37), none, false, false, [37]⟩,
   ⟨some 39, .ld (some 3) [] (.t 9), none, false, false, []⟩,
   ⟨some 40, .rowView 3 [.t 39], none, false, false, [39]⟩,
   ⟨some 41, .app 3 (.t 38) (.t 40), none, false, false, [38, 40]⟩,
   ⟨some 42, .nilc (.t 34), none, false, false, [34]⟩,
   ⟨some 43, .fa 0 (.t 42), none, false, false, [42]⟩,
   ⟨none, .st 1 (.t 43) (.t 41), none, false, false, [41, 43]⟩]))
  (.skip)))
 (.seq (.ops 8 false [⟨some 44, .mv (.t 0), none, false, false, [0]⟩,
  ⟨some 45, .mv (.t 10), none, false, false, [10]⟩,
  ⟨some 46, .ld (some 3) [] (.t 9), none, false, false, [9]⟩,
  ⟨some 47, .call (.c (.fn 288 [] [])) [.t 44, .t 45, .t 46], none, false, false, [44, 45, 46, 47]⟩])
 (.seq (.ops 9 false [⟨some 48, .mv (.t 11), none, false, false, [11]⟩,
  ⟨some 49, .not (.t 48), none, false, false, [48]⟩,
  ⟨some 8, .mv (.t 49), none, false, false, [49]⟩])
 (.ret)))))))
def rs_heap_Heap_Put : List IRes := [.t 8]
theorem ok_heap_Heap_Put : fnOk Try.prog 260 ic_heap_Heap_Put rs_heap_Heap_Put 50 = true := by kernel_rfl

/-- (*tallyman/heap.Heap).Drop -/
def ic_heap_Heap_Drop : ICode :=
 .seq (.ops 0 false [⟨some 4, .mv (.c (.bool false)), none, false, false, [4]⟩])
 (.seq (.seq (.ops 1 false [⟨some 8, .mv (.t 0), none, false, false, []⟩,
  ⟨some 9, .eqnil false .p (.t 8), none, false, false, [8]⟩])
 (.cond (.t 9)
  (.seq (.ops 2 false [⟨some 4, .mv (.c (.bool false)), none, false, false, []⟩])
  (.ret))
  (.skip)))
 (.seq (.ops 3 false [⟨some 11, .mv (.t 0), none, false, false, []⟩,
  ⟨some 12, .nilc (.t 11), none, false, false, [11]⟩,
  ⟨some 13, .fa 1 (.t 12), none, false, false, [12]⟩,
  ⟨some 14, .ld none [] (.t 13), none, false, false, [13]⟩,
  ⟨some 15, .mv (.t 1), none, false, false, []⟩,
  ⟨some 16, .look (.int .i64 0) true (.t 14) (.t 15), none, false, false, [14, 15]⟩,
  ⟨some 10, .mv (.t 16), none, false, false, [16]⟩,
  ⟨some 17, .ext 0 (.t 10), none, false, false, []⟩,
  ⟨some 18, .ext 1 (.t 10), none, false, false, [10]⟩,
  ⟨some 5, .mv (.t 17), none, false, false, [17]⟩,
  ⟨some 6, .mv (.t 18), none, false, false, [18]⟩])
 (.seq (.seq (.ops 4 false [⟨some 19, .mv (.t 6), none, false, false, [6]⟩,
  ⟨some 20, .not (.t 19), none, false, false, [19]⟩])
 (.cond (.t 20)
  (.seq (.ops 5 false [⟨some 4, .mv (.c (.bool false)), none, false, false, []⟩])
  (.ret))
  (.skip)))
 (.seq (.ops 6 false [⟨some 21, .mv (.t 0), none, false, false, []⟩,
  ⟨some 22, .nilc (.t 21), none, false, false, [21]⟩,
  ⟨some 23, .fa 1 (.t 22), none, false, false, [22]⟩,
  ⟨some 24, .ld none [] (.t 23), none, false, false, [23]⟩,
  ⟨some 25, .mv (.t 1), none, false, false, []⟩,
  ⟨none, .del (.t 24) (.t 25), none, false, false, [24, 25]⟩])
 (.seq (.ops 7 true [⟨some 26, .mv (.t 0), none, false, false, []⟩,
  ⟨some 27, .nilc (.t 26), none, false, true, [26]⟩,
  ⟨some 28, .fa 0 (.t 27), none, false, true, [27]⟩,
  ⟨some 29, .ld none [] (.t 28), none, false, true, [28]⟩,
  ⟨some 30, .mv (.t 0), none, false, false, []⟩,
  ⟨some 31, .nilc (.t 30), none, false, true, [30]⟩,
  ⟨some 32, .fa 0 (.t 31), none, false, true, [31]⟩,
  ⟨some 33, .ld none [] (.t 32), none, false, true, [32]⟩,
  ⟨some 34, .len (.t 33), none, false, true, [33]⟩,
  ⟨some 35, .bin .sub (.t 34) (.c (.int .i64 1)), none, false, false, [34]⟩,
  ⟨some 36, .ia 3 [.int .i64 0, .int .i64 0, .int .i64 0] (.t 29) (.t 35), none, false, true, [29, 35]⟩,
  ⟨some 37, .ld (some 3) [.int .i64 0, .int .i64 0, .int .i64 0] (.t 36), none, false, true, [36]⟩,
  ⟨some 7, .alloc [.int .i64 0, .int .i64 0, .int .i64 0], none, false, false, []⟩,
  ⟨none, .st 3 (.t 7) (.t 37), none, false, false, [37]⟩])
 (.seq (.ops 8 true [⟨some 38, .mv (.t 0), none, false, false, []⟩,
  ⟨some 39, .mv (.t 0), none, false, false, []⟩,
  ⟨some 40, .nilc (.t 39), none, false, false, [39]⟩,
  ⟨some 41, .fa 0 (.t 40), none, false, false, [40]⟩,
  ⟨some 42, .ld none [] (.t 41), none, false, false, [41]⟩,
  ⟨some 43, .mv (.t 0), none, false, false, []⟩,
  ⟨some 44, .nilc (.t 43), none, false, false, [43]⟩,
  ⟨some 45, .fa 0 (.t 44), none, false, false, [44]⟩,
  ⟨some 46, .ld none [] (.t 45), none, false, false, [45]⟩,
  ⟨some 47, .len (.t 46), none, false, false, [46]⟩,
  ⟨some 48, .bin .sub (.t 47) (.c (.int .i64 1)), none, false, false, [47]⟩,
  ⟨some 49, .slc 3 (.t 42) none (some (.t 48)), none, false, false, [42, 48]⟩,
  ⟨some 50, .nilc (.t 38), none, false, false, [38]⟩,
  ⟨some 51, .fa 0 (.t 50), none, false, false, [50]⟩,
  ⟨none, .st 1 (.t 51) (.t 49), none, false, false, [49, 51]⟩])
 (.seq (.seq (.ops 9 false [⟨some 52, .fa 0 (.t 7), none, false, false, []⟩,
  ⟨some 53, .ld none [] (.t 52), none, false, false, [52]⟩,
  ⟨some 54, .mv (.t 1), none, false, false, [1]⟩,
  ⟨some 55, .bin .neq (.t 53) (.t 54), none, false, false, [53, 54]⟩])
 (.cond (.t 55)
  (.ops 10 false [⟨some 56, .mv (.t 0), none, false, false, [0]⟩,
   ⟨some 57, .mv (.t 5), none, false, false, [5]⟩,
   ⟨some 58, .ld (some 3) [] (.t 7), none, false, false, [7]⟩,
   ⟨some 59, .call (.c (.fn 288 [] [])) [.t 56, .t 57, .t 58], none, false, false, [56, 57, 58, 59]⟩])
  (.skip)))
 (.seq (.ops 11 false [⟨some 4, .mv (.c (.bool true)), none, false, false, []⟩])
 (.ret)))))))))
def rs_heap_Heap_Drop : List IRes := [.t 4]
theorem ok_heap_Heap_Drop : fnOk Try.prog 290 ic_heap_Heap_Drop rs_heap_Heap_Drop 60 = true := by kernel_rfl

/-- (*tallyman/heap.Heap).First -/
def ic_heap_Heap_First : ICode :=
 .seq (.ops 0 false [⟨some 2, .mv (.c (.int .i64 0)), none, false, false, [2]⟩,
  ⟨some 3, .mv (.c (.bool false)), none, false, false, [3]⟩])
 (.seq (.seq (.ops 1 false [⟨some 4, .mv (.t 0), none, false, false, []⟩,
  ⟨some 5, .call (.c (.fn 303 [] [])) [.t 4], none, false, false, [4]⟩,
  ⟨some 6, .bin .eql (.t 5) (.c (.int .i64 0)), none, false, false, [5]⟩])
 (.cond (.t 6)
  (.seq (.ops 2 false [⟨some 2, .mv (.c (.int .i64 0)), none, false, false, []⟩,
   ⟨some 3, .mv (.c (.bool false)), none, false, false, []⟩])
  (.ret))
  (.skip)))
 (.seq (.ops 3 false [⟨some 7, .mv (.t 0), none, false, false, [0]⟩,
  ⟨some 8, .nilc (.t 7), none, false, false, [7]⟩,
  ⟨some 9, .fa 0 (.t 8), none, false, false, [8]⟩,
  ⟨some 10, .ld none [] (.t 9), none, false, false, [9]⟩,
  ⟨some 11, .ia 3 [.int .i64 0, .int .i64 0, .int .i64 0] (.t 10) (.c (.int .i64 0)), none, false, false, [10]⟩,
  ⟨some 12, .fa 0 (.t 11), none, false, false, [11]⟩,
  ⟨some 13, .ld none [.int .i64 0, .int .i64 0, .int .i64 0] (.t 12), none, false, false, [12]⟩,
  ⟨some 2, .mv (.t 13), none, false, false, [13]⟩,
  ⟨some 3, .mv (.c (.bool true)), none, false, false, []⟩])
 (.ret)))
def rs_heap_Heap_First : List IRes := [.t 2, .t 3]
theorem ok_heap_Heap_First : fnOk Try.prog 289 ic_heap_Heap_First rs_heap_Heap_First 14 = true := by kernel_rfl

/-- (*tallyman/heap.Heap).Pop -/
def ic_heap_Heap_Pop : ICode :=
 .seq (.ops 0 false [⟨some 2, .mv (.c (.int .i64 0)), none, false, false, [2]⟩,
  ⟨some 3, .mv (.c (.bool false)), none, false, false, [3]⟩])
 (.seq (.ops 1 false [⟨some 7, .mv (.t 0), none, false, false, []⟩,
  ⟨some 8, .call (.c (.fn 289 [] [])) [.t 7], none, false, false, [7]⟩,
  ⟨some 6, .mv (.t 8), none, false, false, [8]⟩,
  ⟨some 9, .ext 0 (.t 6), none, false, false, []⟩,
  ⟨some 10, .ext 1 (.t 6), none, false, false, [6]⟩,
  ⟨some 4, .mv (.t 9), none, false, false, [9]⟩,
  ⟨some 5, .mv (.t 10), none, false, false, [10]⟩])
 (.seq (.seq (.ops 2 false [⟨some 11, .mv (.t 5), none, false, false, []⟩])
 (.cond (.t 11)
  (.ops 3 false [⟨some 12, .mv (.t 0), none, false, false, [0]⟩,
   ⟨some 13, .mv (.t 4), none, false, false, []⟩,
   ⟨some 14, .call (.c (.fn 290 [] [])) [.t 12, .t 13], none, false, false, [12, 13, 14]⟩])
  (.skip)))
 (.seq (.ops 4 false [⟨some 15, .mv (.t 4), none, false, false, [4]⟩,
  ⟨some 16, .mv (.t 5), none, false, false, [5]⟩,
  ⟨some 2, .mv (.t 15), none, false, false, [15]⟩,
  ⟨some 3, .mv (.t 16), none, false, false, [16]⟩])
 (.ret))))
def rs_heap_Heap_Pop : List IRes := [.t 2, .t 3]
theorem ok_heap_Heap_Pop : fnOk Try.prog 261 ic_heap_Heap_Pop rs_heap_Heap_Pop 17 = true := by kernel_rfl

/-- (*tallyman/heap.Heap).Len -/
def ic_heap_Heap_Len : ICode :=
 .seq (.ops 0 false [⟨some 2, .mv (.c (.int .i64 0)), none, false, false, [2]⟩])
 (.seq (.seq (.ops 1 false [⟨some 3, .mv (.t 0), none, false, false, []⟩,
  ⟨some 4, .eqnil false .p (.t 3), none, false, false, [3]⟩])
 (.cond (.t 4)
  (.seq (.ops 2 false [⟨some 2, .mv (.c (.int .i64 0)), none, false, false, []⟩])
  (.ret))
  (.skip)))
 (.seq (.ops 3 false [⟨some 5, .mv (.t 0), none, false, false, [0]⟩,
  ⟨some 6, .nilc (.t 5), none, false, false, [5]⟩,
  ⟨some 7, .fa 0 (.t 6), none, false, false, [6]⟩,
  ⟨some 8, .ld none [] (.t 7), none, false, false, [7]⟩,
  ⟨some 9, .len (.t 8), none, false, false, [8]⟩,
  ⟨some 2, .mv (.t 9), none, false, false, [9]⟩])
 (.ret)))
def rs_heap_Heap_Len : List IRes := [.t 2]
theorem ok_heap_Heap_Len : fnOk Try.prog 303 ic_heap_Heap_Len rs_heap_Heap_Len 10 = true := by kernel_rfl

/-- tallyman/heap.New -/
def ic_heap_New : ICode :=
 .seq (.ops 0 false [⟨some 0, .mv (.c (.nilp)), none, false, false, [0]⟩])
 (.seq (.ops 1 false [⟨some 1, .mkmap, none, false, false, []⟩,
  ⟨some 2, .build [.nils, .nilm] [(1, 1, .t 1)], none, false, false, [1]⟩,
  ⟨some 3, .box (.t 2), none, false, false, [2]⟩,
  ⟨some 0, .mv (.t 3), none, false, false, [3]⟩])
 (.ret))
def rs_heap_New : List IRes := [.t 0]
theorem ok_heap_New : fnOk Try.prog 259 ic_heap_New rs_heap_New 4 = true := by kernel_rfl

/-- cmp.Less(int) -/
def ic_cmp_Less_int : ICode :=
 .seq (.ops 0 false [⟨some 4, .mv (.c (.bool false)), none, false, false, [4]⟩])
 (.seq (.ops 1 false [⟨some 5, .mv (.t 0), none, false, false, []⟩,
  ⟨some 6, .call (.c (.fn 299 [] [])) [.t 5], none, false, false, [5]⟩,
  ⟨some 7, .mv (.t 6), none, false, false, [6]⟩,
  ⟨some 8, .mv (.t 1), (some (7, true)), true, false, []⟩,
  ⟨some 9, .call (.c (.fn 299 [] [])) [.o 8], (some (7, true)), true, false, [8]⟩,
  ⟨some 10, .not (.o 9), (some (7, true)), true, false, [9]⟩,
  ⟨some 11, .pick (.t 7) (.t 10) (.c (.bool false)), none, false, false, [7, 10]⟩,
  ⟨some 12, .mv (.t 11), none, false, false, [11]⟩,
  ⟨some 13, .mv (.t 0), (some (12, false)), true, false, [0]⟩,
  ⟨some 14, .mv (.t 1), (some (12, false)), true, false, [1]⟩,
  ⟨some 15, .bin .lss (.o 13) (.o 14), (some (12, false)), true, false, [13, 14]⟩,
  ⟨some 16, .pick (.t 12) (.c (.bool true)) (.t 15), none, false, false, [12, 15]⟩,
  ⟨some 4, .mv (.t 16), none, false, false, [16]⟩])
 (.ret))
def rs_cmp_Less_int : List IRes := [.t 4]
theorem ok_cmp_Less_int : fnOk Try.prog 280 ic_cmp_Less_int rs_cmp_Less_int 17 = true := by kernel_rfl

end Go.Proofs.Ytnjpfoblmomnlaa.Sx
