/- Functions of the seat in the small language. No conditions: a kit of our own. -/
import Derived.Test.YtnjpfoblmomnlaaProg
import Derived.Test.YtnjpfoblmomnlaaSx17
namespace Go.Proofs.Ytnjpfoblmomnlaa.Sx
open Go Go.RowKit
set_option linter.unusedVariables false

/-- slices.IndexFunc(()tallyman/api.Lock,tallyman/api.Lock) -/
def ic_slices_IndexFunc_api_Lock_api_Lock : ICode :=
 .seq (.ops 0 false [⟨some 4, .mv (.c (.int .i64 0)), none, false, false, [4]⟩])
 (.seq (.seq (.ops 1 false [⟨some 6, .mv (.t 0), none, false, false, []⟩,
  ⟨some 7, .len (.t 6), none, false, false, [6]⟩,
  ⟨some 8, .mv (.c (.int .i64 0)), none, false, false, []⟩])
 (.block 0 (.loop [0, 1, 7, 8] (.seq (.ops 2 false [⟨some 9, .bin .lss (.t 8) (.t 7), none, false, false, []⟩])
   (.seq (.cond (.t 9)
    (.skip)
    (.exit 0))
   (.seq (.block 1 (.seq (.ops 3 false [⟨some 10, .mv (.t 8), none, false, false, []⟩,
     ⟨some 5, .mv (.t 10), none, false, false, [10]⟩])
    (.seq (.ops 4 false [⟨some 11, .mv (.t 1), none, false, false, []⟩,
     ⟨some 12, .mv (.t 0), none, false, false, []⟩,
     ⟨some 13, .mv (.t 5), none, false, false, []⟩,
     ⟨some 14, .ia 3 [.int .i64 0, .int .i64 0, .view []] (.t 12) (.t 13), none, false, false, [12, 13]⟩,
     ⟨some 15, .ld (some 3) [.int .i64 0, .int .i64 0, .view []] (.t 14), none, false, false, [14]⟩,
     ⟨some 16, .call (.t 11) [.t 15], none, false, false, [11, 15]⟩])
    (.cond (.t 16)
     (.seq (.ops 5 false [⟨some 17, .mv (.t 5), none, false, false, [5]⟩,
      ⟨some 4, .mv (.t 17), none, false, false, [17]⟩])
     (.ret))
     (.skip)))))
   (.ops 6 false [⟨some 18, .bin .add (.t 8) (.c (.int .i64 1)), none, false, false, [8]⟩,
    ⟨some 8, .mv (.t 18), none, false, false, [18]⟩])))))))
 (.seq (.ops 7 false [⟨some 4, .mv (.c (.int .i64 (-1))), none, false, false, []⟩])
 (.ret)))
def rs_slices_IndexFunc_api_Lock_api_Lock : List IRes := [.t 4]
theorem ok_slices_IndexFunc_api_Lock_api_Lock : fnOk Try.prog 253 ic_slices_IndexFunc_api_Lock_api_Lock rs_slices_IndexFunc_api_Lock_api_Lock 19 = true := by kernel_rfl

/-- slices.IndexFunc(()tallyman/api.Arc,tallyman/api.Arc) -/
def ic_slices_IndexFunc_api_Arc_api_Arc : ICode :=
 .seq (.ops 0 false [⟨some 4, .mv (.c (.int .i64 0)), none, false, false, [4]⟩])
 (.seq (.seq (.ops 1 false [⟨some 6, .mv (.t 0), none, false, false, []⟩,
  ⟨some 7, .len (.t 6), none, false, false, [6]⟩,
  ⟨some 8, .mv (.c (.int .i64 0)), none, false, false, []⟩])
 (.block 0 (.loop [0, 1, 7, 8] (.seq (.ops 2 false [⟨some 9, .bin .lss (.t 8) (.t 7), none, false, false, []⟩])
   (.seq (.cond (.t 9)
    (.skip)
    (.exit 0))
   (.seq (.block 1 (.seq (.ops 3 false [⟨some 10, .mv (.t 8), none, false, false, []⟩,
     ⟨some 5, .mv (.t 10), none, false, false, [10]⟩])
    (.seq (.ops 4 false [⟨some 11, .mv (.t 1), none, false, false, []⟩,
     ⟨some 12, .mv (.t 0), none, false, false, []⟩,
     ⟨some 13, .mv (.t 5), none, false, false, []⟩,
     ⟨some 14, .ia 2 [.int .i64 0, .int .i64 0] (.t 12) (.t 13), none, false, false, [12, 13]⟩,
     ⟨some 15, .ld (some 2) [.int .i64 0, .int .i64 0] (.t 14), none, false, false, [14]⟩,
     ⟨some 16, .call (.t 11) [.t 15], none, false, false, [11, 15]⟩])
    (.cond (.t 16)
     (.seq (.ops 5 false [⟨some 17, .mv (.t 5), none, false, false, [5]⟩,
      ⟨some 4, .mv (.t 17), none, false, false, [17]⟩])
     (.ret))
     (.skip)))))
   (.ops 6 false [⟨some 18, .bin .add (.t 8) (.c (.int .i64 1)), none, false, false, [8]⟩,
    ⟨some 8, .mv (.t 18), none, false, false, [18]⟩])))))))
 (.seq (.ops 7 false [⟨some 4, .mv (.c (.int .i64 (-1))), none, false, false, []⟩])
 (.ret)))
def rs_slices_IndexFunc_api_Arc_api_Arc : List IRes := [.t 4]
theorem ok_slices_IndexFunc_api_Arc_api_Arc : fnOk Try.prog 122 ic_slices_IndexFunc_api_Arc_api_Arc rs_slices_IndexFunc_api_Arc_api_Arc 19 = true := by kernel_rfl

/-- (tallyman/waits.yard).lock -/
def ic_waits_yard_lock : ICode :=
 .seq (.ops 0 false [⟨some 2, .box (.t 0), none, false, false, [0]⟩,
  ⟨some 3, .box (.t 1), none, false, false, [1]⟩,
  ⟨some 4, .alloc [.int .i64 0, .int .i64 0, .nils], none, false, false, []⟩,
  ⟨some 5, .mv (.c (.bool false)), none, false, false, [5]⟩])
 (.seq (.ops 1 false [⟨some 7, .fa 1 (.t 2), none, false, false, []⟩,
  ⟨some 8, .ld none [] (.t 7), none, false, false, [7]⟩,
  ⟨some 9, .mkfn 254 [] [.t 3], none, false, false, [3]⟩,
  ⟨some 10, .call (.c (.fn 253 [] [])) [.t 8, .t 9], none, false, false, [8, 9]⟩,
  ⟨some 6, .mv (.t 10), none, false, false, [10]⟩])
 (.seq (.seq (.ops 2 false [⟨some 11, .mv (.t 6), none, false, false, []⟩,
  ⟨some 12, .bin .lss (.t 11) (.c (.int .i64 0)), none, false, false, [11]⟩])
 (.cond (.t 12)
  (.seq (.ops 3 false [⟨some 13, .build [.int .i64 0, .int .i64 0, .nils] [], none, false, false, []⟩,
   ⟨none, .st 3 (.t 4) (.t 13), none, false, false, [13]⟩,
   ⟨some 5, .mv (.c (.bool false)), none, false, false, []⟩])
  (.ret))
  (.skip)))
 (.seq (.ops 4 false [⟨some 14, .fa 1 (.t 2), none, false, false, [2]⟩,
  ⟨some 15, .ld none [] (.t 14), none, false, false, [14]⟩,
  ⟨some 16, .mv (.t 6), none, false, false, [6]⟩,
  ⟨some 17, .ia 3 [.int .i64 0, .int .i64 0, .view []] (.t 15) (.t 16), none, false, false, [15, 16]⟩,
  ⟨some 18, .ld (some 3) [.int .i64 0, .int .i64 0, .view []] (.t 17), none, false, false, [17]⟩,
  ⟨none, .st 3 (.t 4) (.t 18), none, false, false, [18]⟩,
  ⟨some 5, .mv (.c (.bool true)), none, false, false, []⟩])
 (.ret))))
def rs_waits_yard_lock : List IRes := [.cell 4 (some 3), .t 5]
theorem ok_waits_yard_lock : fnOk Try.prog 201 ic_waits_yard_lock rs_waits_yard_lock 19 = true := by kernel_rfl

/-- (tallyman/waits.yard).lock$1 -/
def ic_waits_yard_lock_1 : ICode :=
 .seq (.ops 0 false [⟨some 2, .box (.t 0), none, false, false, [0]⟩,
  ⟨some 3, .mv (.c (.bool false)), none, false, false, [3]⟩])
 (.seq (.ops 1 false [⟨some 4, .fa 0 (.t 2), none, false, false, [2]⟩,
  ⟨some 5, .ld none [] (.t 4), none, false, false, [4]⟩,
  ⟨some 6, .ld none [] (.t 1), none, false, false, [1]⟩,
  ⟨some 7, .bin .eql (.t 5) (.t 6), none, false, false, [5, 6]⟩,
  ⟨some 3, .mv (.t 7), none, false, false, [7]⟩])
 (.ret))
def rs_waits_yard_lock_1 : List IRes := [.t 3]
theorem ok_waits_yard_lock_1 : fnOk Try.prog 254 ic_waits_yard_lock_1 rs_waits_yard_lock_1 8 = true := by kernel_rfl

/-- (tallyman/waits.yard).lease -/
def ic_waits_yard_lease : ICode :=
 .seq (.ops 0 false [⟨some 2, .box (.t 0), none, false, false, [0]⟩,
  ⟨some 3, .box (.t 1), none, false, false, [1]⟩,
  ⟨some 4, .alloc [.int .i64 0, .int .i64 0, .int .i64 0, .int .i64 0, .int .i64 0, .int .i64 0, .nils], none, false, false, []⟩,
  ⟨some 5, .mv (.c (.bool false)), none, false, false, [5]⟩])
 (.seq (.ops 1 false [⟨some 7, .fa 0 (.t 2), none, false, false, []⟩,
  ⟨some 8, .ld none [] (.t 7), none, false, false, [7]⟩,
  ⟨some 9, .mkfn 256 [] [.t 3], none, false, false, [3]⟩,
  ⟨some 10, .call (.c (.fn 255 [] [])) [.t 8, .t 9], none, false, false, [8, 9]⟩,
  ⟨some 6, .mv (.t 10), none, false, false, [10]⟩])
 (.seq (.seq (.ops 2 false [⟨some 11, .mv (.t 6), none, false, false, []⟩,
  ⟨some 12, .bin .lss (.t 11) (.c (.int .i64 0)), none, false, false, [11]⟩])
 (.cond (.t 12)
  (.seq (.ops 3 false [⟨some 13, .build [.int .i64 0, .int .i64 0, .int .i64 0, .int .i64 0, .int .i64 0, .int .i64 0, .nils] [], none, false, false, []⟩,
   ⟨none, .st 7 (.t 4) (.t 13), none, false, false, [13]⟩,
   ⟨some 5, .mv (.c (.bool false)), none, false, false, []⟩])
  (.ret))
  (.skip)))
 (.seq (.ops 4 false [⟨some 14, .fa 0 (.t 2), none, false, false, [2]⟩,
  ⟨some 15, .ld none [] (.t 14), none, false, false, [14]⟩,
  ⟨some 16, .mv (.t 6), none, false, false, [6]⟩,
  ⟨some 17, .ia 7 [.int .i64 0, .int .i64 0, .int .i64 0, .int .i64 0, .int .i64 0, .int .i64 0, .view []] (.t 15) (.t 16), none, false, false, [15, 16]⟩,
  ⟨some 18, .ld (some 7) [.int .i64 0, .int .i64 0, .int .i64 0, .int .i64 0, .int .i64 0, .int .i64 0, .view []] (.t 17), none, false, false, [17]⟩,
  ⟨none, .st 7 (.t 4) (.t 18), none, false, false, [18]⟩,
  ⟨some 5, .mv (.c (.bool true)), none, false, false, []⟩])
 (.ret))))
def rs_waits_yard_lease : List IRes := [.cell 4 (some 7), .t 5]
theorem ok_waits_yard_lease : fnOk Try.prog 202 ic_waits_yard_lease rs_waits_yard_lease 19 = true := by kernel_rfl

/-- (tallyman/waits.yard).lease$1 -/
def ic_waits_yard_lease_1 : ICode :=
 .seq (.ops 0 false [⟨some 2, .box (.t 0), none, false, false, [0]⟩,
  ⟨some 3, .mv (.c (.bool false)), none, false, false, [3]⟩])
 (.seq (.ops 1 false [⟨some 4, .fa 0 (.t 2), none, false, false, [2]⟩,
  ⟨some 5, .ld none [] (.t 4), none, false, false, [4]⟩,
  ⟨some 6, .ld none [] (.t 1), none, false, false, [1]⟩,
  ⟨some 7, .bin .eql (.t 5) (.t 6), none, false, false, [5, 6]⟩,
  ⟨some 3, .mv (.t 7), none, false, false, [7]⟩])
 (.ret))
def rs_waits_yard_lease_1 : List IRes := [.t 3]
theorem ok_waits_yard_lease_1 : fnOk Try.prog 256 ic_waits_yard_lease_1 rs_waits_yard_lease_1 8 = true := by kernel_rfl

/-- (tallyman/waits.yard).goal -/
def ic_waits_yard_goal : ICode :=
 .seq (.ops 0 false [⟨some 2, .box (.t 0), none, false, false, [0]⟩,
  ⟨some 3, .box (.t 1), none, false, false, [1]⟩,
  ⟨some 4, .alloc [.int .i64 0, .int .i64 0, .nils], none, false, false, []⟩,
  ⟨some 5, .mv (.c (.bool false)), none, false, false, [5]⟩])
 (.seq (.seq (.ops 1 false [⟨some 6, .fa 5 (.t 3), none, false, false, []⟩,
  ⟨some 7, .ld none [] (.t 6), none, false, false, [6]⟩,
  ⟨some 8, .bin .lss (.t 7) (.c (.int .i64 0)), none, false, false, [7]⟩,
  ⟨some 9, .mv (.t 8), none, false, false, [8]⟩,
  ⟨some 10, .fa 5 (.t 3), (some (9, false)), true, false, []⟩,
  ⟨some 11, .ld none [] (.o 10), (some (9, false)), true, false, [10]⟩,
  ⟨some 12, .fa 6 (.t 3), (some (9, false)), true, false, []⟩,
  ⟨some 13, .ld none [] (.o 12), (some (9, false)), true, false, [12]⟩,
  ⟨some 14, .len (.o 13), (some (9, false)), true, false, [13]⟩,
  ⟨some 15, .bin .geq (.o 11) (.o 14), (some (9, false)), true, false, [11, 14]⟩,
  ⟨some 16, .pick (.t 9) (.c (.bool true)) (.t 15), none, false, false, [9, 15]⟩])
 (.cond (.t 16)
  (.seq (.ops 2 false [⟨some 17, .build [.int .i64 0, .int .i64 0, .nils] [], none, false, false, []⟩,
   ⟨none, .st 3 (.t 4) (.t 17), none, false, false, [17]⟩,
   ⟨some 5, .mv (.c (.bool false)), none, false, false, []⟩])
  (.ret))
  (.skip)))
 (.seq (.ops 3 true [⟨some 18, .ld (some 2) [] (.t 2), none, false, false, [2]⟩,
  ⟨some 19, .fa 6 (.t 3), none, false, false, []⟩,
  ⟨some 20, .ld none [] (.t 19), none, false, false, [19]⟩,
  ⟨some 21, .fa 5 (.t 3), none, false, false, [3]⟩,
  ⟨some 22, .ld none [] (.t 21), none, false, false, [21]⟩,
  ⟨some 23, .ia 1 [.int .i64 0] (.t 20) (.t 22), none, false, false, [20, 22]⟩,
  ⟨some 24, .ld none [.int .i64 0] (.t 23), none, false, false, [23]⟩,
  ⟨some 25, .call (.c (.fn 201 [] [])) [.t 18, .t 24], none, false, false, [18, 24]⟩,
  ⟨some 26, .ext 0 (.t 25), none, false, false, []⟩,
  ⟨some 27, .ext 1 (.t 25), none, false, false, [25]⟩,
  ⟨none, .st 3 (.t 4) (.t 26), none, false, false, [26]⟩,
  ⟨some 5, .mv (.t 27), none, false, false, [27]⟩])
 (.ret)))
def rs_waits_yard_goal : List IRes := [.cell 4 (some 3), .t 5]
theorem ok_waits_yard_goal : fnOk Try.prog 120 ic_waits_yard_goal rs_waits_yard_goal 28 = true := by kernel_rfl

/-- (tallyman/waits.yard).leaseRight -/
def ic_waits_yard_leaseRight : ICode :=
 .seq (.ops 0 false [⟨some 2, .box (.t 0), none, false, false, [0]⟩,
  ⟨some 3, .box (.t 1), none, false, false, [1]⟩,
  ⟨some 4, .mv (.c (.bool false)), none, false, false, [4]⟩])
 (.seq (.seq (.ops 1 false [⟨some 11, .fa 6 (.t 3), none, false, false, []⟩,
  ⟨some 12, .ld none [] (.t 11), none, false, false, [11]⟩,
  ⟨some 13, .call (.c (.fn 127 [] [])) [.t 12], none, false, false, [12]⟩,
  ⟨some 14, .not (.t 13), none, false, false, [13]⟩,
  ⟨some 15, .mv (.t 14), none, false, false, [14]⟩,
  ⟨some 16, .fa 5 (.t 3), (some (15, false)), true, false, []⟩,
  ⟨some 17, .ld none [] (.o 16), (some (15, false)), true, false, [16]⟩,
  ⟨some 18, .bin .lss (.o 17) (.c (.int .i64 0)), (some (15, false)), true, false, [17]⟩,
  ⟨some 19, .pick (.t 15) (.c (.bool true)) (.t 18), none, false, false, [15, 18]⟩,
  ⟨some 20, .mv (.t 19), none, false, false, [19]⟩,
  ⟨some 21, .fa 5 (.t 3), (some (20, false)), true, false, []⟩,
  ⟨some 22, .ld none [] (.o 21), (some (20, false)), true, false, [21]⟩,
  ⟨some 23, .fa 6 (.t 3), (some (20, false)), true, false, []⟩,
  ⟨some 24, .ld none [] (.o 23), (some (20, false)), true, false, [23]⟩,
  ⟨some 25, .len (.o 24), (some (20, false)), true, false, [24]⟩,
  ⟨some 26, .bin .gtr (.o 22) (.o 25), (some (20, false)), true, false, [22, 25]⟩,
  ⟨some 27, .pick (.t 20) (.c (.bool true)) (.t 26), none, false, false, [20, 26]⟩])
 (.cond (.t 27)
  (.seq (.ops 2 false [⟨some 4, .mv (.c (.bool false)), none, false, false, []⟩])
  (.ret))
  (.skip)))
 (.seq (.seq (.ops 3 false [⟨some 28, .fa 6 (.t 3), none, false, false, []⟩,
  ⟨some 29, .ld none [] (.t 28), none, false, false, [28]⟩,
  ⟨some 30, .fa 5 (.t 3), none, false, false, []⟩,
  ⟨some 31, .ld none [] (.t 30), none, false, false, [30]⟩,
  ⟨some 32, .slc 1 (.t 29) none (some (.t 31)), none, false, false, [29, 31]⟩,
  ⟨some 33, .len (.t 32), none, false, false, []⟩,
  ⟨some 34, .mv (.c (.int .i64 0)), none, false, false, []⟩])
 (.block 0 (.loop [2, 3, 32, 33, 34] (.seq (.ops 4 false [⟨some 35, .bin .lss (.t 34) (.t 33), none, false, false, []⟩])
   (.seq (.cond (.t 35)
    (.skip)
    (.exit 0))
   (.seq (.block 1 (.seq (.ops 5 false [⟨some 36, .ia 1 [.int .i64 0] (.t 32) (.t 34), none, false, false, []⟩,
     ⟨some 37, .ld none [.int .i64 0] (.t 36), none, false, false, [36]⟩,
     ⟨some 6, .mv (.t 37), none, false, false, [37]⟩])
    (.seq (.ops 6 false [⟨some 39, .ld (some 2) [] (.t 2), none, false, false, []⟩,
     ⟨some 40, .mv (.t 6), none, false, false, [6]⟩,
     ⟨some 41, .call (.c (.fn 201 [] [])) [.t 39, .t 40], none, false, false, [39, 40]⟩,
     ⟨some 38, .mv (.t 41), none, false, false, [41]⟩,
     ⟨some 42, .ext 0 (.t 38), none, false, false, []⟩,
     ⟨some 43, .ext 1 (.t 38), none, false, false, [38]⟩,
     ⟨some 7, .alloc [.int .i64 0, .int .i64 0, .nils], none, false, false, []⟩,
     ⟨none, .st 3 (.t 7) (.t 42), none, false, false, [42]⟩,
     ⟨some 8, .mv (.t 43), none, false, false, [43]⟩])
    (.seq (.ops 7 false [⟨some 44, .mv (.t 8), none, false, false, [8]⟩,
     ⟨some 45, .not (.t 44), none, false, false, [44]⟩,
     ⟨some 46, .mv (.t 45), none, false, false, [45]⟩,
     ⟨some 47, .fa 1 (.t 7), (some (46, false)), true, false, [7]⟩,
     ⟨some 48, .ld none [] (.o 47), (some (46, false)), true, false, [47]⟩,
     ⟨some 49, .fa 0 (.t 3), (some (46, false)), true, false, []⟩,
     ⟨some 50, .ld none [] (.o 49), (some (46, false)), true, false, [49]⟩,
     ⟨some 51, .bin .neq (.o 48) (.o 50), (some (46, false)), true, false, [48, 50]⟩,
     ⟨some 52, .pick (.t 46) (.c (.bool true)) (.t 51), none, false, false, [46, 51]⟩])
    (.cond (.t 52)
     (.seq (.ops 8 false [⟨some 4, .mv (.c (.bool false)), none, false, false, []⟩])
     (.ret))
     (.skip))))))
   (.ops 9 false [⟨some 53, .bin .add (.t 34) (.c (.int .i64 1)), none, false, false, [34]⟩,
    ⟨some 34, .mv (.t 53), none, false, false, [53]⟩])))))))
 (.seq (.ops 10 false [⟨some 55, .ld (some 2) [] (.t 2), none, false, false, [2]⟩,
  ⟨some 56, .ld (some 7) [] (.t 3), none, false, false, []⟩,
  ⟨some 57, .call (.c (.fn 120 [] [])) [.t 55, .t 56], none, false, false, [55, 56]⟩,
  ⟨some 54, .mv (.t 57), none, false, false, [57]⟩,
  ⟨some 58, .ext 0 (.t 54), none, false, false, []⟩,
  ⟨some 59, .ext 1 (.t 54), none, false, false, [54]⟩,
  ⟨some 9, .alloc [.int .i64 0, .int .i64 0, .nils], none, false, false, []⟩,
  ⟨none, .st 3 (.t 9) (.t 58), none, false, false, [58]⟩,
  ⟨some 10, .mv (.t 59), none, false, false, [59]⟩])
 (.seq (.ops 11 false [⟨some 60, .fa 5 (.t 3), none, false, false, []⟩,
  ⟨some 61, .ld none [] (.t 60), none, false, false, [60]⟩,
  ⟨some 62, .fa 6 (.t 3), none, false, false, []⟩,
  ⟨some 63, .ld none [] (.t 62), none, false, false, [62]⟩,
  ⟨some 64, .len (.t 63), none, false, false, [63]⟩,
  ⟨some 65, .bin .eql (.t 61) (.t 64), none, false, false, [61, 64]⟩,
  ⟨some 66, .mv (.t 65), none, false, false, [65]⟩,
  ⟨some 67, .mv (.t 10), (some (66, false)), true, false, [10]⟩,
  ⟨some 68, .mv (.o 67), (some (66, false)), true, false, [67]⟩,
  ⟨some 69, .fa 2 (.t 9), (some (68, true)), true, false, [9]⟩,
  ⟨some 70, .ld none [] (.o 69), (some (68, true)), true, false, [69]⟩,
  ⟨some 71, .fa 0 (.t 3), (some (68, true)), true, false, [3]⟩,
  ⟨some 72, .ld none [] (.o 71), (some (68, true)), true, false, [71]⟩,
  ⟨some 73, .call (.c (.fn 124 [] [])) [.o 70, .o 72], (some (68, true)), true, false, [70, 72]⟩,
  ⟨some 74, .pick (.o 68) (.t 73) (.c (.bool false)), (some (66, false)), true, false, [68, 73]⟩,
  ⟨some 75, .pick (.t 66) (.c (.bool true)) (.t 74), none, false, false, [66, 74]⟩,
  ⟨some 4, .mv (.t 75), none, false, false, [75]⟩])
 (.ret)))))
def rs_waits_yard_leaseRight : List IRes := [.t 4]
theorem ok_waits_yard_leaseRight : fnOk Try.prog 114 ic_waits_yard_leaseRight rs_waits_yard_leaseRight 76 = true := by kernel_rfl

/-- (tallyman/waits.yard).lockRight -/
def ic_waits_yard_lockRight : ICode :=
 .seq (.ops 0 false [⟨some 2, .box (.t 0), none, false, false, [0]⟩,
  ⟨some 3, .box (.t 1), none, false, false, [1]⟩,
  ⟨some 4, .mv (.c (.bool false)), none, false, false, [4]⟩])
 (.seq (.seq (.ops 1 false [⟨some 11, .fa 1 (.t 3), none, false, false, []⟩,
  ⟨some 12, .ld none [] (.t 11), none, false, false, [11]⟩,
  ⟨some 13, .bin .neq (.t 12) (.c (.int .i64 0)), none, false, false, [12]⟩])
 (.cond (.t 13)
  (.seq (.ops 2 false [⟨some 15, .ld (some 2) [] (.t 2), none, false, false, []⟩,
   ⟨some 16, .fa 1 (.t 3), none, false, false, []⟩,
   ⟨some 17, .ld none [] (.t 16), none, false, false, [16]⟩,
   ⟨some 18, .call (.c (.fn 202 [] [])) [.t 15, .t 17], none, false, false, [15, 17]⟩,
   ⟨some 14, .mv (.t 18), none, false, false, [18]⟩,
   ⟨some 19, .ext 0 (.t 14), none, false, false, []⟩,
   ⟨some 20, .ext 1 (.t 14), none, false, false, [14]⟩,
   ⟨some 5, .alloc [.int .i64 0, .int .i64 0, .int .i64 0, .int .i64 0, .int .i64 0, .int .i64 0, .nils], none, false, false, []⟩,
   ⟨none, .st 7 (.t 5) (.t 19), none, false, false, [19]⟩,
   ⟨some 6, .mv (.t 20), none, false, false, [20]⟩])
  (.seq (.ops 3 true [⟨some 21, .mv (.t 6), none, false, false, [6]⟩,
   ⟨some 22, .not (.t 21), none, false, false, [21]⟩,
   ⟨some 23, .mv (.t 22), none, false, false, [22]⟩,
   ⟨some 24, .fa 6 (.t 5), (some (23, false)), true, false, []⟩,
   ⟨some 25, .ld none [] (.o 24), (some (23, false)), true, false, [24]⟩,
   ⟨some 26, .fa 5 (.t 5), (some (23, false)), true, false, [5]⟩,
   ⟨some 27, .ld none [] (.o 26), (some (23, false)), true, false, [26]⟩,
   ⟨some 28, .slc 1 (.o 25) none (some (.o 27)), (some (23, false)), true, false, [25, 27]⟩,
   ⟨some 29, .fa 0 (.t 3), (some (23, false)), true, false, []⟩,
   ⟨some 30, .ld none [] (.o 29), (some (23, false)), true, false, [29]⟩,
   ⟨some 31, .call (.c (.fn 203 [] [])) [.o 28, .o 30], (some (23, false)), true, false, [28, 30]⟩,
   ⟨some 32, .not (.o 31), (some (23, false)), true, false, [31]⟩,
   ⟨some 33, .pick (.t 23) (.c (.bool true)) (.t 32), none, false, false, [23, 32]⟩])
  (.cond (.t 33)
   (.seq (.ops 4 false [⟨some 4, .mv (.c (.bool false)), none, false, false, []⟩])
   (.ret))
   (.skip))))
  (.skip)))
 (.seq (.seq (.ops 5 false [⟨some 34, .fa 2 (.t 3), none, false, false, []⟩,
  ⟨some 35, .ld none [] (.t 34), none, false, false, [34]⟩,
  ⟨some 36, .len (.t 35), none, false, false, []⟩,
  ⟨some 37, .mv (.c (.int .i64 0)), none, false, false, []⟩])
 (.block 0 (.loop [2, 3, 35, 36, 37] (.seq (.ops 6 false [⟨some 38, .bin .lss (.t 37) (.t 36), none, false, false, []⟩])
   (.seq (.cond (.t 38)
    (.skip)
    (.exit 0))
   (.seq (.block 1 (.seq (.ops 7 false [⟨some 39, .mv (.t 37), none, false, false, []⟩,
     ⟨some 40, .ia 1 [.int .i64 0] (.t 35) (.t 37), none, false, false, []⟩,
     ⟨some 41, .ld none [.int .i64 0] (.t 40), none, false, false, [40]⟩,
     ⟨some 7, .mv (.t 39), none, false, false, [39]⟩,
     ⟨some 8, .mv (.t 41), none, false, false, [41]⟩])
    (.seq (.ops 8 false [⟨some 43, .ld (some 2) [] (.t 2), none, false, false, []⟩,
     ⟨some 44, .mv (.t 8), none, false, false, []⟩,
     ⟨some 45, .call (.c (.fn 202 [] [])) [.t 43, .t 44], none, false, false, [43, 44]⟩,
     ⟨some 42, .mv (.t 45), none, false, false, [45]⟩,
     ⟨some 46, .ext 0 (.t 42), none, false, false, []⟩,
     ⟨some 47, .ext 1 (.t 42), none, false, false, [42]⟩,
     ⟨some 9, .alloc [.int .i64 0, .int .i64 0, .int .i64 0, .int .i64 0, .int .i64 0, .int .i64 0, .nils], none, false, false, []⟩,
     ⟨none, .st 7 (.t 9) (.t 46), none, false, false, [46]⟩,
     ⟨some 10, .mv (.t 47), none, false, false, [47]⟩])
    (.seq (.ops 9 true [⟨some 48, .mv (.t 10), none, false, false, [10]⟩,
     ⟨some 49, .not (.t 48), none, false, false, [48]⟩,
     ⟨some 50, .mv (.t 49), none, false, false, [49]⟩,
     ⟨some 51, .fa 2 (.t 3), (some (50, false)), true, false, []⟩,
     ⟨some 52, .ld none [] (.o 51), (some (50, false)), true, false, [51]⟩,
     ⟨some 53, .mv (.t 7), (some (50, false)), true, false, [7]⟩,
     ⟨some 54, .slc 1 (.o 52) none (some (.o 53)), (some (50, false)), true, false, [52, 53]⟩,
     ⟨some 55, .mv (.t 8), (some (50, false)), true, false, [8]⟩,
     ⟨some 56, .call (.c (.fn 124 [] [])) [.o 54, .o 55], (some (50, false)), true, false, [54, 55]⟩,
     ⟨some 57, .pick (.t 50) (.c (.bool true)) (.t 56), none, false, false, [50, 56]⟩,
     ⟨some 58, .mv (.t 57), none, false, false, [57]⟩,
     ⟨some 59, .fa 5 (.t 9), (some (58, false)), true, false, []⟩,
     ⟨some 60, .ld none [] (.o 59), (some (58, false)), true, false, [59]⟩,
     ⟨some 61, .fa 6 (.t 9), (some (58, false)), true, false, []⟩,
     ⟨some 62, .ld none [] (.o 61), (some (58, false)), true, false, [61]⟩,
     ⟨some 63, .len (.o 62), (some (58, false)), true, false, [62]⟩,
     ⟨some 64, .bin .eql (.o 60) (.o 63), (some (58, false)), true, false, [60, 63]⟩,
     ⟨some 65, .pick (.t 58) (.c (.bool true)) (.t 64), none, false, false, [58, 64]⟩,
     ⟨some 66, .mv (.t 65), none, false, false, [65]⟩,
     ⟨some 67, .fa 6 (.t 9), (some (66, false)), true, false, []⟩,
     ⟨some 68, .ld none [] (.o 67), (some (66, false)), true, false, [67]⟩,
     ⟨some 69, .fa 5 (.t 9), (some (66, false)), true, false, [9]⟩,
     ⟨some 70, .ld none [] (.o 69), (some (66, false)), true, false, [69]⟩,
     ⟨some 71, .ia 1 [.int .i64 0] (.o 68) (.o 70), (some (66, false)), true, false, [68, 70]⟩,
     ⟨some 72, .ld none [.int .i64 0] (.o 71), (some (66, false)), true, false, [71]⟩,
     ⟨some 73, .fa 0 (.t 3), (some (66, false)), true, false, []⟩,
     ⟨some 74, .ld none [] (.o 73), (some (66, false)), true, false, [73]⟩,
     ⟨some 75, .bin .neq (.o 72) (.o 74), (some (66, false)), true, false, [72, 74]⟩,
     ⟨some 76, .pick (.t 66) (.c (.bool true)) (.t 75), none, false, false, [66, 75]⟩])
    (.cond (.t 76)
     (.seq (.ops 10 false [⟨some 4, .mv (.c (.bool false)), none, false, false, []⟩])
     (.ret))
     (.skip))))))
   (.ops 11 false [⟨some 77, .bin .add (.t 37) (.c (.int .i64 1)), none, false, false, [37]⟩,
    ⟨some 37, .mv (.t 77), none, false, false, [77]⟩])))))))
 (.seq (.ops 12 false [⟨some 4, .mv (.c (.bool true)), none, false, false, []⟩])
 (.ret))))
def rs_waits_yard_lockRight : List IRes := [.t 4]
theorem ok_waits_yard_lockRight : fnOk Try.prog 115 ic_waits_yard_lockRight rs_waits_yard_lockRight 78 = true := by kernel_rfl

/-- tallyman/waits.Right -/
def ic_waits_Right : ICode :=
 .seq (.ops 0 false [⟨some 4, .mv (.c (.bool false)), none, false, false, [4]⟩])
 (.seq (.ops 1 false [⟨some 11, .mv (.t 0), none, false, false, []⟩,
  ⟨some 12, .mv (.t 1), none, false, false, []⟩,
  ⟨some 13, .build [.nils, .nils] [(0, 1, .t 11), (1, 1, .t 12)], none, false, false, [11, 12]⟩,
  ⟨some 5, .alloc [.nils, .nils], none, false, false, []⟩,
  ⟨none, .st 2 (.t 5) (.t 13), none, false, false, [13]⟩])
 (.seq (.ops 2 false [⟨some 6, .mv (.c (.int .i64 0)), none, false, false, []⟩])
 (.seq (.seq (.ops 3 false [⟨some 14, .mv (.t 0), none, false, false, [0]⟩,
  ⟨some 15, .len (.t 14), none, false, false, []⟩,
  ⟨some 16, .mv (.c (.int .i64 0)), none, false, false, []⟩])
 (.block 0 (.loop [1, 5, 6, 14, 15, 16] (.seq (.ops 4 false [⟨some 17, .bin .lss (.t 16) (.t 15), none, false, false, []⟩])
   (.seq (.cond (.t 17)
    (.skip)
    (.exit 0))
   (.seq (.block 1 (.seq (.ops 5 false [⟨some 18, .ia 7 [.int .i64 0, .int .i64 0, .int .i64 0, .int .i64 0, .int .i64 0, .int .i64 0, .view []] (.t 14) (.t 16), none, false, false, []⟩,
     ⟨some 19, .ld (some 7) [.int .i64 0, .int .i64 0, .int .i64 0, .int .i64 0, .int .i64 0, .int .i64 0, .view []] (.t 18), none, false, false, [18]⟩,
     ⟨some 8, .alloc [.int .i64 0, .int .i64 0, .int .i64 0, .int .i64 0, .int .i64 0, .int .i64 0, .nils], none, false, false, []⟩,
     ⟨none, .st 7 (.t 8) (.t 19), none, false, false, [19]⟩])
    (.seq (.seq (.ops 6 false [⟨some 20, .fa 0 (.t 8), none, false, false, []⟩,
     ⟨some 21, .ld none [] (.t 20), none, false, false, [20]⟩,
     ⟨some 22, .mv (.t 6), none, false, false, [6]⟩,
     ⟨some 23, .bin .leq (.t 21) (.t 22), none, false, false, [21, 22]⟩,
     ⟨some 24, .mv (.t 23), none, false, false, [23]⟩,
     ⟨some 25, .ld (some 2) [] (.t 5), (some (24, false)), true, false, []⟩,
     ⟨some 26, .ld (some 7) [] (.t 8), (some (24, false)), true, false, []⟩,
     ⟨some 27, .call (.c (.fn 114 [] [])) [.o 25, .o 26], (some (24, false)), true, false, [25, 26]⟩,
     ⟨some 28, .not (.o 27), (some (24, false)), true, false, [27]⟩,
     ⟨some 29, .pick (.t 24) (.c (.bool true)) (.t 28), none, false, false, [24, 28]⟩])
    (.cond (.t 29)
     (.seq (.ops 7 false [⟨some 4, .mv (.c (.bool false)), none, false, false, []⟩])
     (.ret))
     (.skip)))
    (.ops 8 false [⟨some 30, .fa 0 (.t 8), none, false, false, [8]⟩,
     ⟨some 31, .ld none [] (.t 30), none, false, false, [30]⟩,
     ⟨some 6, .mv (.t 31), none, false, false, [31]⟩]))))
   (.ops 9 false [⟨some 32, .bin .add (.t 16) (.c (.int .i64 1)), none, false, false, [16]⟩,
    ⟨some 16, .mv (.t 32), none, false, false, [32]⟩])))))))
 (.seq (.seq (.ops 10 false [⟨some 33, .mv (.t 1), none, false, false, []⟩,
  ⟨some 34, .len (.t 33), none, false, false, []⟩,
  ⟨some 35, .mv (.c (.int .i64 0)), none, false, false, []⟩])
 (.block 2 (.loop [1, 5, 33, 34, 35] (.seq (.ops 11 false [⟨some 36, .bin .lss (.t 35) (.t 34), none, false, false, []⟩])
   (.seq (.cond (.t 36)
    (.skip)
    (.exit 2))
   (.seq (.block 3 (.seq (.ops 12 false [⟨some 37, .mv (.t 35), none, false, false, []⟩,
     ⟨some 38, .ia 3 [.int .i64 0, .int .i64 0, .view []] (.t 33) (.t 35), none, false, false, []⟩,
     ⟨some 39, .ld (some 3) [.int .i64 0, .int .i64 0, .view []] (.t 38), none, false, false, [38]⟩,
     ⟨some 10, .alloc [.int .i64 0, .int .i64 0, .nils], none, false, false, []⟩,
     ⟨some 9, .mv (.t 37), none, false, false, [37]⟩,
     ⟨none, .st 3 (.t 10) (.t 39), none, false, false, [39]⟩])
    (.seq (.ops 13 true [⟨some 40, .mv (.t 9), none, false, false, []⟩,
     ⟨some 41, .bin .gtr (.t 40) (.c (.int .i64 0)), none, false, false, [40]⟩,
     ⟨some 42, .mv (.t 41), none, false, false, [41]⟩,
     ⟨some 43, .fa 0 (.t 10), (some (42, true)), true, false, []⟩,
     ⟨some 44, .ld none [] (.o 43), (some (42, true)), true, false, [43]⟩,
     ⟨some 45, .mv (.t 1), (some (42, true)), true, false, []⟩,
     ⟨some 46, .mv (.t 9), (some (42, true)), true, false, [9]⟩,
     ⟨some 47, .bin .sub (.o 46) (.c (.int .i64 1)), (some (42, true)), true, false, [46]⟩,
     ⟨some 48, .ia 3 [.int .i64 0, .int .i64 0, .view []] (.o 45) (.o 47), (some (42, true)), true, false, [45, 47]⟩,
     ⟨some 49, .fa 0 (.o 48), (some (42, true)), true, false, [48]⟩,
     ⟨some 50, .ld none [.int .i64 0, .int .i64 0, .view []] (.o 49), (some (42, true)), true, false, [49]⟩,
     ⟨some 51, .bin .leq (.o 44) (.o 50), (some (42, true)), true, false, [44, 50]⟩,
     ⟨some 52, .pick (.t 42) (.t 51) (.c (.bool false)), none, false, false, [42, 51]⟩,
     ⟨some 53, .mv (.t 52), none, false, false, [52]⟩,
     ⟨some 54, .ld (some 2) [] (.t 5), (some (53, false)), true, false, []⟩,
     ⟨some 55, .ld (some 3) [] (.t 10), (some (53, false)), true, false, [10]⟩,
     ⟨some 56, .call (.c (.fn 115 [] [])) [.o 54, .o 55], (some (53, false)), true, false, [54, 55]⟩,
     ⟨some 57, .not (.o 56), (some (53, false)), true, false, [56]⟩,
     ⟨some 58, .pick (.t 53) (.c (.bool true)) (.t 57), none, false, false, [53, 57]⟩])
    (.cond (.t 58)
     (.seq (.ops 14 false [⟨some 4, .mv (.c (.bool false)), none, false, false, []⟩])
     (.ret))
     (.skip)))))
   (.ops 15 false [⟨some 59, .bin .add (.t 35) (.c (.int .i64 1)), none, false, false, [35]⟩,
    ⟨some 35, .mv (.t 59), none, false, false, [59]⟩])))))))
 (.seq (.ops 16 false [⟨some 4, .mv (.c (.bool true)), none, false, false, []⟩])
 (.ret))))))
def rs_waits_Right : List IRes := [.t 4]
theorem ok_waits_Right : fnOk Try.prog 24 ic_waits_Right rs_waits_Right 60 = true := by kernel_rfl

/-- tallyman/waits.Arcs -/
def ic_waits_Arcs : ICode :=
 .seq (.ops 0 false [⟨some 4, .mv (.c (.nils)), none, false, false, [4]⟩])
 (.seq (.ops 1 false [⟨some 11, .mv (.t 0), none, false, false, []⟩,
  ⟨some 12, .mv (.t 1), none, false, false, [1]⟩,
  ⟨some 13, .build [.nils, .nils] [(0, 1, .t 11), (1, 1, .t 12)], none, false, false, [11, 12]⟩,
  ⟨some 5, .alloc [.nils, .nils], none, false, false, []⟩,
  ⟨none, .st 2 (.t 5) (.t 13), none, false, false, [13]⟩])
 (.seq (.ops 2 false [⟨some 6, .mv (.c (.nils)), none, false, false, []⟩])
 (.seq (.seq (.ops 3 false [⟨some 14, .mv (.t 0), none, false, false, [0]⟩,
  ⟨some 15, .len (.t 14), none, false, false, []⟩,
  ⟨some 16, .mv (.c (.int .i64 0)), none, false, false, []⟩])
 (.block 0 (.loop [5, 6, 14, 15, 16] (.seq (.ops 4 false [⟨some 17, .bin .lss (.t 16) (.t 15), none, false, false, []⟩])
   (.seq (.cond (.t 17)
    (.skip)
    (.exit 0))
   (.seq (.block 1 (.seq (.ops 5 false [⟨some 18, .ia 7 [.int .i64 0, .int .i64 0, .int .i64 0, .int .i64 0, .int .i64 0, .int .i64 0, .view []] (.t 14) (.t 16), none, false, false, []⟩,
     ⟨some 19, .ld (some 7) [.int .i64 0, .int .i64 0, .int .i64 0, .int .i64 0, .int .i64 0, .int .i64 0, .view []] (.t 18), none, false, false, [18]⟩,
     ⟨some 8, .alloc [.int .i64 0, .int .i64 0, .int .i64 0, .int .i64 0, .int .i64 0, .int .i64 0, .nils], none, false, false, []⟩,
     ⟨none, .st 7 (.t 8) (.t 19), none, false, false, [19]⟩])
    (.seq (.ops 6 false [⟨some 21, .ld (some 2) [] (.t 5), none, false, false, []⟩,
     ⟨some 22, .ld (some 7) [] (.t 8), none, false, false, []⟩,
     ⟨some 23, .call (.c (.fn 120 [] [])) [.t 21, .t 22], none, false, false, [21, 22]⟩,
     ⟨some 20, .mv (.t 23), none, false, false, [23]⟩,
     ⟨some 24, .ext 0 (.t 20), none, false, false, []⟩,
     ⟨some 25, .ext 1 (.t 20), none, false, false, [20]⟩,
     ⟨some 9, .alloc [.int .i64 0, .int .i64 0, .nils], none, false, false, []⟩,
     ⟨none, .st 3 (.t 9) (.t 24), none, false, false, [24]⟩,
     ⟨some 10, .mv (.t 25), none, false, false, [25]⟩])
    (.seq (.ops 7 false [⟨some 26, .mv (.t 10), none, false, false, [10]⟩,
     ⟨some 27, .mv (.t 26), none, false, false, [26]⟩,
     ⟨some 28, .fa 1 (.t 9), (some (27, true)), true, false, []⟩,
     ⟨some 29, .ld none [] (.o 28), (some (27, true)), true, false, [28]⟩,
     ⟨some 30, .bin .neq (.o 29) (.c (.int .i64 0)), (some (27, true)), true, false, [29]⟩,
     ⟨some 31, .pick (.t 27) (.t 30) (.c (.bool false)), none, false, false, [27, 30]⟩])
    (.cond (.t 31)
     (.ops 8 false [⟨some 32, .mv (.t 6), none, false, false, [6]⟩,
      ⟨some 33, .fa 0 (.t 8), none, false, false, [8]⟩,
      ⟨some 34, .ld none [] (.t 33), none, false, false, [33]⟩,
      ⟨some 35, .fa 1 (.t 9), none, false, false, [9]⟩,
      ⟨some 36, .ld none [] (.t 35), none, false, false, [35]⟩,
      ⟨some 37, .build [.int .i64 0, .int .i64 0] [(0, 1, .t 34), (1, 1, .t 36)], none, false, false, [34, 36]⟩,
      ⟨some 38, .rowView 2 [.t 37], none, false, false, [37]⟩,
      ⟨some 39, .app 2 (.t 32) (.t 38), none, false, false, [32, 38]⟩,
      ⟨some 6, .mv (.t 39), none, false, false, [39]⟩])
     (.skip))))))
   (.ops 9 false [⟨some 40, .bin .add (.t 16) (.c (.int .i64 1)), none, false, false, [16]⟩,
    ⟨some 16, .mv (.t 40), none, false, false, [40]⟩])))))))
 (.seq (.ops 10 false [⟨some 41, .mv (.t 6), none, false, false, [6]⟩,
  ⟨some 4, .mv (.t 41), none, false, false, [41]⟩])
 (.ret)))))
def rs_waits_Arcs : List IRes := [.t 4]
theorem ok_waits_Arcs : fnOk Try.prog 29 ic_waits_Arcs rs_waits_Arcs 42 = true := by kernel_rfl

/-- tallyman/waits.Ring -/
def ic_waits_Ring : ICode :=
 .seq (.ops 0 false [⟨some 4, .mv (.c (.bool false)), none, false, false, [4]⟩])
 (.seq (.ops 1 false [⟨some 11, .mv (.t 0), none, false, false, [0]⟩,
  ⟨some 12, .mv (.t 1), none, false, false, [1]⟩,
  ⟨some 13, .call (.c (.fn 29 [] [])) [.t 11, .t 12], none, false, false, [11, 12]⟩,
  ⟨some 5, .mv (.t 13), none, false, false, [13]⟩])
 (.seq (.ops 2 false [⟨some 6, .mv (.c (.nils)), none, false, false, []⟩])
 (.seq (.seq (.ops 3 false [⟨some 14, .mv (.t 5), none, false, false, []⟩,
  ⟨some 15, .len (.t 14), none, false, false, []⟩,
  ⟨some 16, .mv (.c (.int .i64 0)), none, false, false, []⟩])
 (.block 0 (.loop [5, 6, 14, 15, 16] (.seq (.ops 4 false [⟨some 17, .bin .lss (.t 16) (.t 15), none, false, false, []⟩])
   (.seq (.cond (.t 17)
    (.skip)
    (.exit 0))
   (.seq (.block 1 (.seq (.ops 5 false [⟨some 18, .ia 2 [.int .i64 0, .int .i64 0] (.t 14) (.t 16), none, false, false, []⟩,
     ⟨some 19, .ld (some 2) [.int .i64 0, .int .i64 0] (.t 18), none, false, false, [18]⟩,
     ⟨some 8, .alloc [.int .i64 0, .int .i64 0], none, false, false, []⟩,
     ⟨none, .st 2 (.t 8) (.t 19), none, false, false, [19]⟩])
    (.ops 6 false [⟨some 20, .mv (.t 6), none, false, false, [6]⟩,
     ⟨some 21, .fa 0 (.t 8), none, false, false, []⟩,
     ⟨some 22, .ld none [] (.t 21), none, false, false, [21]⟩,
     ⟨some 23, .fa 1 (.t 8), none, false, false, [8]⟩,
     ⟨some 24, .ld none [] (.t 23), none, false, false, [23]⟩,
     ⟨some 25, .rowView 1 [.t 22, .t 24], none, false, false, [22, 24]⟩,
     ⟨some 26, .app 1 (.t 20) (.t 25), none, false, false, [20, 25]⟩,
     ⟨some 6, .mv (.t 26), none, false, false, [26]⟩])))
   (.ops 7 false [⟨some 27, .bin .add (.t 16) (.c (.int .i64 1)), none, false, false, [16]⟩,
    ⟨some 16, .mv (.t 27), none, false, false, [27]⟩])))))))
 (.seq (.ops 8 false [⟨some 29, .mv (.t 6), none, false, false, [6]⟩,
  ⟨some 30, .mv (.t 5), none, false, false, [5]⟩,
  ⟨some 31, .call (.c (.fn 118 [] [])) [.t 29, .t 30], none, false, false, [29, 30]⟩,
  ⟨some 28, .mv (.t 31), none, false, false, [31]⟩,
  ⟨some 32, .ext 0 (.t 28), none, false, false, []⟩,
  ⟨some 33, .ext 1 (.t 28), none, false, false, [28]⟩,
  ⟨some 9, .mv (.t 32), none, false, false, [9, 32]⟩,
  ⟨some 10, .mv (.t 33), none, false, false, [33]⟩])
 (.seq (.ops 9 false [⟨some 34, .mv (.t 10), none, false, false, [10]⟩,
  ⟨some 35, .not (.t 34), none, false, false, [34]⟩,
  ⟨some 4, .mv (.t 35), none, false, false, [35]⟩])
 (.ret))))))
def rs_waits_Ring : List IRes := [.t 4]
theorem ok_waits_Ring : fnOk Try.prog 26 ic_waits_Ring rs_waits_Ring 36 = true := by kernel_rfl

/-- tallyman/waits.Chain -/
def ic_waits_Chain : ICode :=
 .seq (.ops 0 false [⟨some 5, .box (.t 2), none, false, false, [2]⟩,
  ⟨some 6, .mv (.c (.nils)), none, false, false, [6]⟩])
 (.back [5, 7, 8] (.seq (.ops 1 false [⟨some 10, .mv (.t 0), none, false, false, [0]⟩,
   ⟨some 11, .mv (.t 1), none, false, false, [1]⟩,
   ⟨some 12, .call (.c (.fn 29 [] [])) [.t 10, .t 11], none, false, false, [10, 11]⟩,
   ⟨some 7, .mv (.t 12), none, false, false, [12]⟩])
 (.seq (.ops 2 false [⟨some 13, .ld none [] (.t 5), none, false, false, []⟩,
   ⟨some 14, .rowOwn 1 [.t 13], none, false, false, [13]⟩,
   ⟨some 8, .mv (.t 14), none, false, false, [14]⟩])
 (.label 0))) 0
  (.seq (.ops 3 false [⟨some 15, .mv (.t 7), none, false, false, []⟩,
   ⟨some 16, .mkfn 123 [] [.t 5], none, false, false, []⟩,
   ⟨some 17, .call (.c (.fn 122 [] [])) [.t 15, .t 16], none, false, false, [15, 16]⟩,
   ⟨some 9, .mv (.t 17), none, false, false, [17]⟩])
  (.seq (.seq (.ops 4 false [⟨some 18, .mv (.t 9), none, false, false, []⟩,
   ⟨some 19, .bin .geq (.t 18) (.c (.int .i64 0)), none, false, false, [18]⟩,
   ⟨some 20, .mv (.t 19), none, false, false, [19]⟩,
   ⟨some 21, .mv (.t 8), (some (20, true)), true, false, []⟩,
   ⟨some 22, .mv (.t 7), (some (20, true)), true, false, []⟩,
   ⟨some 23, .mv (.t 9), (some (20, true)), true, false, []⟩,
   ⟨some 24, .ia 2 [.int .i64 0, .int .i64 0] (.o 22) (.o 23), (some (20, true)), true, false, [22, 23]⟩,
   ⟨some 25, .fa 1 (.o 24), (some (20, true)), true, false, [24]⟩,
   ⟨some 26, .ld none [.int .i64 0, .int .i64 0] (.o 25), (some (20, true)), true, false, [25]⟩,
   ⟨some 27, .call (.c (.fn 124 [] [])) [.o 21, .o 26], (some (20, true)), true, false, [21, 26]⟩,
   ⟨some 28, .not (.o 27), (some (20, true)), true, false, [27]⟩,
   ⟨some 29, .pick (.t 20) (.t 28) (.c (.bool false)), none, false, false, [20, 28]⟩])
  (.cond (.t 29)
   (.seq (.ops 5 false [⟨some 30, .mv (.t 7), none, false, false, []⟩,
    ⟨some 31, .mv (.t 9), none, false, false, [9]⟩,
    ⟨some 32, .ia 2 [.int .i64 0, .int .i64 0] (.t 30) (.t 31), none, false, false, [30, 31]⟩,
    ⟨some 33, .fa 1 (.t 32), none, false, false, [32]⟩,
    ⟨some 34, .ld none [.int .i64 0, .int .i64 0] (.t 33), none, false, false, [33]⟩,
    ⟨none, .st 1 (.t 5) (.t 34), none, false, false, [34]⟩])
   (.seq (.ops 6 false [⟨some 35, .mv (.t 8), none, false, false, [8]⟩,
    ⟨some 36, .ld none [] (.t 5), none, false, false, []⟩,
    ⟨some 37, .rowView 1 [.t 36], none, false, false, [36]⟩,
    ⟨some 38, .app 1 (.t 35) (.t 37), none, false, false, [35, 37]⟩,
    ⟨some 8, .mv (.t 38), none, false, false, [38]⟩])
   (.goto 0)))
   (.skip)))
  (.seq (.ops 7 false [⟨some 39, .mv (.t 8), none, false, false, [8]⟩,
   ⟨some 6, .mv (.t 39), none, false, false, [39]⟩])
  (.ret)))))
def rs_waits_Chain : List IRes := [.t 6]
theorem ok_waits_Chain : fnOk Try.prog 32 ic_waits_Chain rs_waits_Chain 40 = true := by kernel_rfl

/-- tallyman/waits.Chain$1 -/
def ic_waits_Chain_1 : ICode :=
 .seq (.ops 0 false [⟨some 2, .box (.t 0), none, false, false, [0]⟩,
  ⟨some 3, .mv (.c (.bool false)), none, false, false, [3]⟩])
 (.seq (.ops 1 false [⟨some 4, .fa 0 (.t 2), none, false, false, [2]⟩,
  ⟨some 5, .ld none [] (.t 4), none, false, false, [4]⟩,
  ⟨some 6, .ld none [] (.t 1), none, false, false, [1]⟩,
  ⟨some 7, .bin .eql (.t 5) (.t 6), none, false, false, [5, 6]⟩,
  ⟨some 3, .mv (.t 7), none, false, false, [7]⟩])
 (.ret))
def rs_waits_Chain_1 : List IRes := [.t 3]
theorem ok_waits_Chain_1 : fnOk Try.prog 123 ic_waits_Chain_1 rs_waits_Chain_1 8 = true := by kernel_rfl

/-- tallyman/waits.Ready -/
def ic_waits_Ready : ICode :=
 .seq (.ops 0 false [⟨some 4, .mv (.c (.nils)), none, false, false, [4]⟩])
 (.seq (.ops 1 false [⟨some 11, .mv (.t 0), none, false, false, []⟩,
  ⟨some 12, .mv (.t 1), none, false, false, [1]⟩,
  ⟨some 13, .build [.nils, .nils] [(0, 1, .t 11), (1, 1, .t 12)], none, false, false, [11, 12]⟩,
  ⟨some 5, .alloc [.nils, .nils], none, false, false, []⟩,
  ⟨none, .st 2 (.t 5) (.t 13), none, false, false, [13]⟩])
 (.seq (.ops 2 false [⟨some 6, .mv (.c (.nils)), none, false, false, []⟩])
 (.seq (.seq (.ops 3 false [⟨some 14, .mv (.t 0), none, false, false, [0]⟩,
  ⟨some 15, .len (.t 14), none, false, false, []⟩,
  ⟨some 16, .mv (.c (.int .i64 0)), none, false, false, []⟩])
 (.block 0 (.loop [5, 6, 14, 15, 16] (.seq (.ops 4 false [⟨some 17, .bin .lss (.t 16) (.t 15), none, false, false, []⟩])
   (.seq (.cond (.t 17)
    (.skip)
    (.exit 0))
   (.seq (.block 1 (.seq (.ops 5 false [⟨some 18, .ia 7 [.int .i64 0, .int .i64 0, .int .i64 0, .int .i64 0, .int .i64 0, .int .i64 0, .view []] (.t 14) (.t 16), none, false, false, []⟩,
     ⟨some 19, .ld (some 7) [.int .i64 0, .int .i64 0, .int .i64 0, .int .i64 0, .int .i64 0, .int .i64 0, .view []] (.t 18), none, false, false, [18]⟩,
     ⟨some 8, .alloc [.int .i64 0, .int .i64 0, .int .i64 0, .int .i64 0, .int .i64 0, .int .i64 0, .nils], none, false, false, []⟩,
     ⟨none, .st 7 (.t 8) (.t 19), none, false, false, [19]⟩])
    (.seq (.ops 6 false [⟨some 21, .ld (some 2) [] (.t 5), none, false, false, []⟩,
     ⟨some 22, .ld (some 7) [] (.t 8), none, false, false, []⟩,
     ⟨some 23, .call (.c (.fn 120 [] [])) [.t 21, .t 22], none, false, false, [21, 22]⟩,
     ⟨some 20, .mv (.t 23), none, false, false, [23]⟩,
     ⟨some 24, .ext 0 (.t 20), none, false, false, []⟩,
     ⟨some 25, .ext 1 (.t 20), none, false, false, [20]⟩,
     ⟨some 9, .alloc [.int .i64 0, .int .i64 0, .nils], none, false, false, []⟩,
     ⟨none, .st 3 (.t 9) (.t 24), none, false, false, [24]⟩,
     ⟨some 10, .mv (.t 25), none, false, false, [25]⟩])
    (.seq (.ops 7 true [⟨some 26, .fa 5 (.t 8), none, false, false, []⟩,
     ⟨some 27, .ld none [] (.t 26), none, false, false, [26]⟩,
     ⟨some 28, .fa 6 (.t 8), none, false, false, []⟩,
     ⟨some 29, .ld none [] (.t 28), none, false, false, [28]⟩,
     ⟨some 30, .len (.t 29), none, false, false, [29]⟩,
     ⟨some 31, .bin .eql (.t 27) (.t 30), none, false, false, [27, 30]⟩,
     ⟨some 32, .mv (.t 31), none, false, false, [31]⟩,
     ⟨some 33, .mv (.t 10), (some (32, false)), true, false, [10]⟩,
     ⟨some 34, .mv (.o 33), (some (32, false)), true, false, [33]⟩,
     ⟨some 35, .fa 1 (.t 9), (some (34, true)), true, false, []⟩,
     ⟨some 36, .ld none [] (.o 35), (some (34, true)), true, false, [35]⟩,
     ⟨some 37, .bin .eql (.o 36) (.c (.int .i64 0)), (some (34, true)), true, false, [36]⟩,
     ⟨some 38, .pick (.o 34) (.t 37) (.c (.bool false)), (some (32, false)), true, false, [34, 37]⟩,
     ⟨some 39, .mv (.o 38), (some (32, false)), true, false, [38]⟩,
     ⟨some 40, .fa 2 (.t 9), (some (39, true)), true, false, []⟩,
     ⟨some 41, .ld none [] (.o 40), (some (39, true)), true, false, [40]⟩,
     ⟨some 42, .len (.o 41), (some (39, true)), true, false, [41]⟩,
     ⟨some 43, .bin .gtr (.o 42) (.c (.int .i64 0)), (some (39, true)), true, false, [42]⟩,
     ⟨some 44, .pick (.o 39) (.t 43) (.c (.bool false)), (some (32, false)), true, false, [39, 43]⟩,
     ⟨some 45, .mv (.o 44), (some (32, false)), true, false, [44]⟩,
     ⟨some 46, .fa 2 (.t 9), (some (45, true)), true, false, [9]⟩,
     ⟨some 47, .ld none [] (.o 46), (some (45, true)), true, false, [46]⟩,
     ⟨some 48, .ia 1 [.int .i64 0] (.o 47) (.c (.int .i64 0)), (some (45, true)), true, false, [47]⟩,
     ⟨some 49, .ld none [.int .i64 0] (.o 48), (some (45, true)), true, false, [48]⟩,
     ⟨some 50, .fa 0 (.t 8), (some (45, true)), true, false, []⟩,
     ⟨some 51, .ld none [] (.o 50), (some (45, true)), true, false, [50]⟩,
     ⟨some 52, .bin .eql (.o 49) (.o 51), (some (45, true)), true, false, [49, 51]⟩,
     ⟨some 53, .pick (.o 45) (.t 52) (.c (.bool false)), (some (32, false)), true, false, [45, 52]⟩,
     ⟨some 54, .pick (.t 32) (.c (.bool true)) (.t 53), none, false, false, [32, 53]⟩])
    (.cond (.t 54)
     (.ops 8 false [⟨some 55, .mv (.t 6), none, false, false, [6]⟩,
      ⟨some 56, .fa 0 (.t 8), none, false, false, [8]⟩,
      ⟨some 57, .ld none [] (.t 56), none, false, false, [56]⟩,
      ⟨some 58, .rowView 1 [.t 57], none, false, false, [57]⟩,
      ⟨some 59, .app 1 (.t 55) (.t 58), none, false, false, [55, 58]⟩,
      ⟨some 6, .mv (.t 59), none, false, false, [59]⟩])
     (.skip))))))
   (.ops 9 false [⟨some 60, .bin .add (.t 16) (.c (.int .i64 1)), none, false, false, [16]⟩,
    ⟨some 16, .mv (.t 60), none, false, false, [60]⟩])))))))
 (.seq (.ops 10 false [⟨some 61, .mv (.t 6), none, false, false, [6]⟩,
  ⟨some 4, .mv (.t 61), none, false, false, [61]⟩])
 (.ret)))))
def rs_waits_Ready : List IRes := [.t 4]
theorem ok_waits_Ready : fnOk Try.prog 34 ic_waits_Ready rs_waits_Ready 62 = true := by kernel_rfl

/-- tallyman/tallymanref21.Waits -/
def ic_r21_Waits : ICode :=
 .seq (.ops 0 false [⟨some 2, .box (.t 0), none, false, false, [0]⟩,
  ⟨some 4, .mv (.c (.int .i64 0)), none, false, false, [4]⟩])
 (.seq (.seq (.ops 1 false [⟨some 5, .fa 5 (.t 2), none, false, false, []⟩,
  ⟨some 6, .ld none [] (.t 5), none, false, false, [5]⟩,
  ⟨some 7, .bin .lss (.t 6) (.c (.int .i64 0)), none, false, false, [6]⟩,
  ⟨some 8, .mv (.t 7), none, false, false, [7]⟩,
  ⟨some 9, .fa 5 (.t 2), (some (8, false)), true, false, []⟩,
  ⟨some 10, .ld none [] (.o 9), (some (8, false)), true, false, [9]⟩,
  ⟨some 11, .fa 6 (.t 2), (some (8, false)), true, false, []⟩,
  ⟨some 12, .ld none [] (.o 11), (some (8, false)), true, false, [11]⟩,
  ⟨some 13, .len (.o 12), (some (8, false)), true, false, [12]⟩,
  ⟨some 14, .bin .geq (.o 10) (.o 13), (some (8, false)), true, false, [10, 13]⟩,
  ⟨some 15, .pick (.t 8) (.c (.bool true)) (.t 14), none, false, false, [8, 14]⟩])
 (.cond (.t 15)
  (.seq (.ops 2 false [⟨some 4, .mv (.c (.int .i64 (-1))), none, false, false, []⟩])
  (.ret))
  (.skip)))
 (.seq (.ops 3 false [⟨some 16, .mv (.t 1), none, false, false, [1]⟩,
  ⟨some 17, .fa 6 (.t 2), none, false, false, []⟩,
  ⟨some 18, .ld none [] (.t 17), none, false, false, [17]⟩,
  ⟨some 19, .fa 5 (.t 2), none, false, false, [2]⟩,
  ⟨some 20, .ld none [] (.t 19), none, false, false, [19]⟩,
  ⟨some 21, .ia 1 [.int .i64 0] (.t 18) (.t 20), none, false, false, [18, 20]⟩,
  ⟨some 22, .ld none [.int .i64 0] (.t 21), none, false, false, [21]⟩,
  ⟨some 23, .call (.c (.fn 204 [] [])) [.t 16, .t 22], none, false, false, [16, 22]⟩,
  ⟨some 4, .mv (.t 23), none, false, false, [23]⟩])
 (.ret)))
def rs_r21_Waits : List IRes := [.t 4]
theorem ok_r21_Waits : fnOk Try.prog 121 ic_r21_Waits rs_r21_Waits 24 = true := by kernel_rfl

/-- tallyman/tallymanref21.Find -/
def ic_r21_Find : ICode :=
 .seq (.ops 0 false [⟨some 4, .mv (.c (.int .i64 0)), none, false, false, [4]⟩])
 (.seq (.seq (.ops 1 false [⟨some 5, .mv (.c (.int .i64 0)), none, false, false, []⟩])
 (.block 0 (.loop [0, 1, 5] (.seq (.seq (.ops 2 false [⟨some 6, .mv (.t 5), none, false, false, []⟩,
    ⟨some 7, .mv (.t 0), none, false, false, []⟩,
    ⟨some 8, .len (.t 7), none, false, false, [7]⟩,
    ⟨some 9, .bin .lss (.t 6) (.t 8), none, false, false, [6, 8]⟩])
   (.cond (.t 9)
    (.skip)
    (.exit 0)))
   (.seq (.block 1 (.seq (.ops 4 false [⟨some 12, .mv (.t 0), none, false, false, []⟩,
     ⟨some 13, .mv (.t 5), none, false, false, []⟩,
     ⟨some 14, .ia 3 [.int .i64 0, .int .i64 0, .view []] (.t 12) (.t 13), none, false, false, [12, 13]⟩,
     ⟨some 15, .fa 0 (.t 14), none, false, false, [14]⟩,
     ⟨some 16, .ld none [.int .i64 0, .int .i64 0, .view []] (.t 15), none, false, false, [15]⟩,
     ⟨some 17, .mv (.t 1), none, false, false, []⟩,
     ⟨some 18, .bin .eql (.t 16) (.t 17), none, false, false, [16, 17]⟩])
    (.cond (.t 18)
     (.seq (.ops 5 false [⟨some 19, .mv (.t 5), none, false, false, [5]⟩,
      ⟨some 4, .mv (.t 19), none, false, false, [19]⟩])
     (.ret))
     (.skip))))
   (.ops 3 false [⟨some 10, .mv (.t 5), none, false, false, [5]⟩,
    ⟨some 11, .bin .add (.t 10) (.c (.int .i64 1)), none, false, false, [10]⟩,
    ⟨some 5, .mv (.t 11), none, false, false, [11]⟩]))))))
 (.seq (.ops 6 false [⟨some 4, .mv (.c (.int .i64 (-1))), none, false, false, []⟩])
 (.ret)))
def rs_r21_Find : List IRes := [.t 4]
theorem ok_r21_Find : fnOk Try.prog 204 ic_r21_Find rs_r21_Find 20 = true := by kernel_rfl

/-- tallyman/tallymanref21.of -/
def ic_r21_of : ICode :=
 .seq (.ops 0 false [⟨some 4, .mv (.c (.int .i64 0)), none, false, false, [4]⟩])
 (.seq (.seq (.ops 1 false [⟨some 5, .mv (.c (.int .i64 0)), none, false, false, []⟩])
 (.block 0 (.loop [0, 1, 5] (.seq (.seq (.ops 2 false [⟨some 6, .mv (.t 5), none, false, false, []⟩,
    ⟨some 7, .mv (.t 0), none, false, false, []⟩,
    ⟨some 8, .len (.t 7), none, false, false, [7]⟩,
    ⟨some 9, .bin .lss (.t 6) (.t 8), none, false, false, [6, 8]⟩])
   (.cond (.t 9)
    (.skip)
    (.exit 0)))
   (.seq (.block 1 (.seq (.ops 4 false [⟨some 12, .mv (.t 0), none, false, false, []⟩,
     ⟨some 13, .mv (.t 5), none, false, false, []⟩,
     ⟨some 14, .ia 7 [.int .i64 0, .int .i64 0, .int .i64 0, .int .i64 0, .int .i64 0, .int .i64 0, .view []] (.t 12) (.t 13), none, false, false, [12, 13]⟩,
     ⟨some 15, .fa 0 (.t 14), none, false, false, [14]⟩,
     ⟨some 16, .ld none [.int .i64 0, .int .i64 0, .int .i64 0, .int .i64 0, .int .i64 0, .int .i64 0, .view []] (.t 15), none, false, false, [15]⟩,
     ⟨some 17, .mv (.t 1), none, false, false, []⟩,
     ⟨some 18, .bin .eql (.t 16) (.t 17), none, false, false, [16, 17]⟩])
    (.cond (.t 18)
     (.seq (.ops 5 false [⟨some 19, .mv (.t 5), none, false, false, [5]⟩,
      ⟨some 4, .mv (.t 19), none, false, false, [19]⟩])
     (.ret))
     (.skip))))
   (.ops 3 false [⟨some 10, .mv (.t 5), none, false, false, [5]⟩,
    ⟨some 11, .bin .add (.t 10) (.c (.int .i64 1)), none, false, false, [10]⟩,
    ⟨some 5, .mv (.t 11), none, false, false, [11]⟩]))))))
 (.seq (.ops 6 false [⟨some 4, .mv (.c (.int .i64 (-1))), none, false, false, []⟩])
 (.ret)))
def rs_r21_of : List IRes := [.t 4]
theorem ok_r21_of : fnOk Try.prog 205 ic_r21_of rs_r21_of 20 = true := by kernel_rfl

/-- tallyman/tallymanref21.times -/
def ic_r21_times : ICode :=
 .seq (.ops 0 false [⟨some 4, .mv (.c (.int .i64 0)), none, false, false, [4]⟩])
 (.seq (.ops 1 false [⟨some 5, .mv (.c (.int .i64 0)), none, false, false, []⟩])
 (.seq (.seq (.ops 2 false [⟨some 6, .mv (.c (.int .i64 0)), none, false, false, []⟩])
 (.block 0 (.loop [0, 1, 5, 6] (.seq (.seq (.ops 3 false [⟨some 7, .mv (.t 6), none, false, false, []⟩,
    ⟨some 8, .mv (.t 0), none, false, false, []⟩,
    ⟨some 9, .len (.t 8), none, false, false, [8]⟩,
    ⟨some 10, .bin .lss (.t 7) (.t 9), none, false, false, [7, 9]⟩])
   (.cond (.t 10)
    (.skip)
    (.exit 0)))
   (.seq (.block 1 (.seq (.ops 5 false [⟨some 13, .mv (.t 0), none, false, false, []⟩,
     ⟨some 14, .mv (.t 6), none, false, false, []⟩,
     ⟨some 15, .ia 1 [.int .i64 0] (.t 13) (.t 14), none, false, false, [13, 14]⟩,
     ⟨some 16, .ld none [.int .i64 0] (.t 15), none, false, false, [15]⟩,
     ⟨some 17, .mv (.t 1), none, false, false, []⟩,
     ⟨some 18, .bin .eql (.t 16) (.t 17), none, false, false, [16, 17]⟩])
    (.cond (.t 18)
     (.ops 6 false [⟨some 19, .mv (.t 5), none, false, false, [5]⟩,
      ⟨some 20, .bin .add (.t 19) (.c (.int .i64 1)), none, false, false, [19]⟩,
      ⟨some 5, .mv (.t 20), none, false, false, [20]⟩])
     (.skip))))
   (.ops 4 false [⟨some 11, .mv (.t 6), none, false, false, [6]⟩,
    ⟨some 12, .bin .add (.t 11) (.c (.int .i64 1)), none, false, false, [11]⟩,
    ⟨some 6, .mv (.t 12), none, false, false, [12]⟩]))))))
 (.seq (.ops 7 false [⟨some 21, .mv (.t 5), none, false, false, [5]⟩,
  ⟨some 4, .mv (.t 21), none, false, false, [21]⟩])
 (.ret))))
def rs_r21_times : List IRes := [.t 4]
theorem ok_r21_times : fnOk Try.prog 206 ic_r21_times rs_r21_times 22 = true := by kernel_rfl

/-- tallyman/tallymanref21.lease -/
def ic_r21_lease : ICode :=
 .seq (.ops 0 false [⟨some 2, .box (.t 0), none, false, false, [0]⟩,
  ⟨some 4, .mv (.c (.bool false)), none, false, false, [4]⟩])
 (.seq (.seq (.ops 1 false [⟨some 8, .fa 6 (.t 2), none, false, false, []⟩,
  ⟨some 9, .ld none [] (.t 8), none, false, false, [8]⟩,
  ⟨some 10, .call (.c (.fn 126 [] [])) [.t 9], none, false, false, [9]⟩,
  ⟨some 11, .not (.t 10), none, false, false, [10]⟩,
  ⟨some 12, .mv (.t 11), none, false, false, [11]⟩,
  ⟨some 13, .fa 5 (.t 2), (some (12, false)), true, false, []⟩,
  ⟨some 14, .ld none [] (.o 13), (some (12, false)), true, false, [13]⟩,
  ⟨some 15, .bin .lss (.o 14) (.c (.int .i64 0)), (some (12, false)), true, false, [14]⟩,
  ⟨some 16, .pick (.t 12) (.c (.bool true)) (.t 15), none, false, false, [12, 15]⟩,
  ⟨some 17, .mv (.t 16), none, false, false, [16]⟩,
  ⟨some 18, .fa 5 (.t 2), (some (17, false)), true, false, []⟩,
  ⟨some 19, .ld none [] (.o 18), (some (17, false)), true, false, [18]⟩,
  ⟨some 20, .fa 6 (.t 2), (some (17, false)), true, false, []⟩,
  ⟨some 21, .ld none [] (.o 20), (some (17, false)), true, false, [20]⟩,
  ⟨some 22, .len (.o 21), (some (17, false)), true, false, [21]⟩,
  ⟨some 23, .bin .gtr (.o 19) (.o 22), (some (17, false)), true, false, [19, 22]⟩,
  ⟨some 24, .pick (.t 17) (.c (.bool true)) (.t 23), none, false, false, [17, 23]⟩])
 (.cond (.t 24)
  (.seq (.ops 2 false [⟨some 4, .mv (.c (.bool false)), none, false, false, []⟩])
  (.ret))
  (.skip)))
 (.seq (.seq (.ops 3 false [⟨some 5, .mv (.c (.int .i64 0)), none, false, false, []⟩])
 (.block 0 (.loop [1, 2, 5] (.seq (.seq (.ops 4 false [⟨some 25, .mv (.t 5), none, false, false, []⟩,
    ⟨some 26, .fa 5 (.t 2), none, false, false, []⟩,
    ⟨some 27, .ld none [] (.t 26), none, false, false, [26]⟩,
    ⟨some 28, .bin .lss (.t 25) (.t 27), none, false, false, [25, 27]⟩])
   (.cond (.t 28)
    (.skip)
    (.exit 0)))
   (.seq (.block 1 (.seq (.ops 6 false [⟨some 31, .mv (.t 1), none, false, false, []⟩,
     ⟨some 32, .fa 6 (.t 2), none, false, false, []⟩,
     ⟨some 33, .ld none [] (.t 32), none, false, false, [32]⟩,
     ⟨some 34, .mv (.t 5), none, false, false, []⟩,
     ⟨some 35, .ia 1 [.int .i64 0] (.t 33) (.t 34), none, false, false, [33, 34]⟩,
     ⟨some 36, .ld none [.int .i64 0] (.t 35), none, false, false, [35]⟩,
     ⟨some 37, .call (.c (.fn 204 [] [])) [.t 31, .t 36], none, false, false, [31, 36]⟩,
     ⟨some 6, .mv (.t 37), none, false, false, [37]⟩])
    (.seq (.ops 7 true [⟨some 38, .mv (.t 6), none, false, false, []⟩,
     ⟨some 39, .bin .lss (.t 38) (.c (.int .i64 0)), none, false, false, [38]⟩,
     ⟨some 40, .mv (.t 39), none, false, false, [39]⟩,
     ⟨some 41, .mv (.t 1), (some (40, false)), true, false, []⟩,
     ⟨some 42, .mv (.t 6), (some (40, false)), true, false, [6]⟩,
     ⟨some 43, .ia 3 [.int .i64 0, .int .i64 0, .view []] (.o 41) (.o 42), (some (40, false)), true, false, [41, 42]⟩,
     ⟨some 44, .fa 1 (.o 43), (some (40, false)), true, false, [43]⟩,
     ⟨some 45, .ld none [.int .i64 0, .int .i64 0, .view []] (.o 44), (some (40, false)), true, false, [44]⟩,
     ⟨some 46, .fa 0 (.t 2), (some (40, false)), true, false, []⟩,
     ⟨some 47, .ld none [] (.o 46), (some (40, false)), true, false, [46]⟩,
     ⟨some 48, .bin .neq (.o 45) (.o 47), (some (40, false)), true, false, [45, 47]⟩,
     ⟨some 49, .pick (.t 40) (.c (.bool true)) (.t 48), none, false, false, [40, 48]⟩])
    (.cond (.t 49)
     (.seq (.ops 8 false [⟨some 4, .mv (.c (.bool false)), none, false, false, []⟩])
     (.ret))
     (.skip)))))
   (.ops 5 false [⟨some 29, .mv (.t 5), none, false, false, [5]⟩,
    ⟨some 30, .bin .add (.t 29) (.c (.int .i64 1)), none, false, false, [29]⟩,
    ⟨some 5, .mv (.t 30), none, false, false, [30]⟩]))))))
 (.seq (.ops 9 false [⟨some 50, .ld (some 7) [] (.t 2), none, false, false, []⟩,
  ⟨some 51, .mv (.t 1), none, false, false, []⟩,
  ⟨some 52, .call (.c (.fn 121 [] [])) [.t 50, .t 51], none, false, false, [50, 51]⟩,
  ⟨some 7, .mv (.t 52), none, false, false, [52]⟩])
 (.seq (.ops 10 true [⟨some 53, .fa 5 (.t 2), none, false, false, []⟩,
  ⟨some 54, .ld none [] (.t 53), none, false, false, [53]⟩,
  ⟨some 55, .fa 6 (.t 2), none, false, false, []⟩,
  ⟨some 56, .ld none [] (.t 55), none, false, false, [55]⟩,
  ⟨some 57, .len (.t 56), none, false, false, [56]⟩,
  ⟨some 58, .bin .eql (.t 54) (.t 57), none, false, false, [54, 57]⟩,
  ⟨some 59, .mv (.t 58), none, false, false, [58]⟩,
  ⟨some 60, .mv (.t 7), (some (59, false)), true, false, []⟩,
  ⟨some 61, .bin .geq (.o 60) (.c (.int .i64 0)), (some (59, false)), true, false, [60]⟩,
  ⟨some 62, .mv (.o 61), (some (59, false)), true, false, [61]⟩,
  ⟨some 63, .mv (.t 1), (some (62, true)), true, false, [1]⟩,
  ⟨some 64, .mv (.t 7), (some (62, true)), true, false, [7]⟩,
  ⟨some 65, .ia 3 [.int .i64 0, .int .i64 0, .view []] (.o 63) (.o 64), (some (62, true)), true, false, [63, 64]⟩,
  ⟨some 66, .fa 2 (.o 65), (some (62, true)), true, false, [65]⟩,
  ⟨some 67, .ld none [.int .i64 0, .int .i64 0, .view []] (.o 66), (some (62, true)), true, false, [66]⟩,
  ⟨some 68, .fa 0 (.t 2), (some (62, true)), true, false, [2]⟩,
  ⟨some 69, .ld none [] (.o 68), (some (62, true)), true, false, [68]⟩,
  ⟨some 70, .call (.c (.fn 52 [] [])) [.o 67, .o 69], (some (62, true)), true, false, [67, 69]⟩,
  ⟨some 71, .pick (.o 62) (.t 70) (.c (.bool false)), (some (59, false)), true, false, [62, 70]⟩,
  ⟨some 72, .pick (.t 59) (.c (.bool true)) (.t 71), none, false, false, [59, 71]⟩,
  ⟨some 4, .mv (.t 72), none, false, false, [72]⟩])
 (.ret)))))
def rs_r21_lease : List IRes := [.t 4]
theorem ok_r21_lease : fnOk Try.prog 116 ic_r21_lease rs_r21_lease 73 = true := by kernel_rfl

/-- tallyman/tallymanref21.lock -/
def ic_r21_lock : ICode :=
 .seq (.ops 0 false [⟨some 2, .box (.t 0), none, false, false, [0]⟩,
  ⟨some 4, .mv (.c (.bool false)), none, false, false, [4]⟩])
 (.seq (.seq (.ops 1 false [⟨some 8, .fa 1 (.t 2), none, false, false, []⟩,
  ⟨some 9, .ld none [] (.t 8), none, false, false, [8]⟩,
  ⟨some 10, .bin .neq (.t 9) (.c (.int .i64 0)), none, false, false, [9]⟩])
 (.cond (.t 10)
  (.seq (.ops 2 false [⟨some 11, .mv (.t 1), none, false, false, []⟩,
   ⟨some 12, .fa 1 (.t 2), none, false, false, []⟩,
   ⟨some 13, .ld none [] (.t 12), none, false, false, [12]⟩,
   ⟨some 14, .call (.c (.fn 205 [] [])) [.t 11, .t 13], none, false, false, [11, 13]⟩,
   ⟨some 5, .mv (.t 14), none, false, false, [14]⟩])
  (.seq (.ops 3 true [⟨some 15, .mv (.t 5), none, false, false, []⟩,
   ⟨some 16, .bin .lss (.t 15) (.c (.int .i64 0)), none, false, false, [15]⟩,
   ⟨some 17, .mv (.t 16), none, false, false, [16]⟩,
   ⟨some 18, .mv (.t 1), (some (17, false)), true, false, []⟩,
   ⟨some 19, .mv (.t 5), (some (17, false)), true, false, []⟩,
   ⟨some 20, .ia 7 [.int .i64 0, .int .i64 0, .int .i64 0, .int .i64 0, .int .i64 0, .int .i64 0, .view []] (.o 18) (.o 19), (some (17, false)), true, false, [18, 19]⟩,
   ⟨some 21, .fa 6 (.o 20), (some (17, false)), true, false, [20]⟩,
   ⟨some 22, .ld none [.int .i64 0, .int .i64 0, .int .i64 0, .int .i64 0, .int .i64 0, .int .i64 0, .view []] (.o 21), (some (17, false)), true, false, [21]⟩,
   ⟨some 23, .mv (.t 1), (some (17, false)), true, false, []⟩,
   ⟨some 24, .mv (.t 5), (some (17, false)), true, false, [5]⟩,
   ⟨some 25, .ia 7 [.int .i64 0, .int .i64 0, .int .i64 0, .int .i64 0, .int .i64 0, .int .i64 0, .view []] (.o 23) (.o 24), (some (17, false)), true, false, [23, 24]⟩,
   ⟨some 26, .fa 5 (.o 25), (some (17, false)), true, false, [25]⟩,
   ⟨some 27, .ld none [.int .i64 0, .int .i64 0, .int .i64 0, .int .i64 0, .int .i64 0, .int .i64 0, .view []] (.o 26), (some (17, false)), true, false, [26]⟩,
   ⟨some 28, .slc 1 (.o 22) none (some (.o 27)), (some (17, false)), true, false, [22, 27]⟩,
   ⟨some 29, .fa 0 (.t 2), (some (17, false)), true, false, []⟩,
   ⟨some 30, .ld none [] (.o 29), (some (17, false)), true, false, [29]⟩,
   ⟨some 31, .call (.c (.fn 52 [] [])) [.o 28, .o 30], (some (17, false)), true, false, [28, 30]⟩,
   ⟨some 32, .not (.o 31), (some (17, false)), true, false, [31]⟩,
   ⟨some 33, .pick (.t 17) (.c (.bool true)) (.t 32), none, false, false, [17, 32]⟩])
  (.cond (.t 33)
   (.seq (.ops 4 false [⟨some 4, .mv (.c (.bool false)), none, false, false, []⟩])
   (.ret))
   (.skip))))
  (.skip)))
 (.seq (.seq (.ops 5 false [⟨some 6, .mv (.c (.int .i64 0)), none, false, false, []⟩])
 (.block 0 (.loop [1, 2, 6] (.seq (.seq (.ops 6 false [⟨some 34, .mv (.t 6), none, false, false, []⟩,
    ⟨some 35, .fa 2 (.t 2), none, false, false, []⟩,
    ⟨some 36, .ld none [] (.t 35), none, false, false, [35]⟩,
    ⟨some 37, .len (.t 36), none, false, false, [36]⟩,
    ⟨some 38, .bin .lss (.t 34) (.t 37), none, false, false, [34, 37]⟩])
   (.cond (.t 38)
    (.skip)
    (.exit 0)))
   (.seq (.block 1 (.seq (.ops 8 false [⟨some 41, .mv (.t 1), none, false, false, []⟩,
     ⟨some 42, .fa 2 (.t 2), none, false, false, []⟩,
     ⟨some 43, .ld none [] (.t 42), none, false, false, [42]⟩,
     ⟨some 44, .mv (.t 6), none, false, false, []⟩,
     ⟨some 45, .ia 1 [.int .i64 0] (.t 43) (.t 44), none, false, false, [43, 44]⟩,
     ⟨some 46, .ld none [.int .i64 0] (.t 45), none, false, false, [45]⟩,
     ⟨some 47, .call (.c (.fn 205 [] [])) [.t 41, .t 46], none, false, false, [41, 46]⟩,
     ⟨some 7, .mv (.t 47), none, false, false, [47]⟩])
    (.seq (.ops 9 true [⟨some 48, .mv (.t 7), none, false, false, []⟩,
     ⟨some 49, .bin .lss (.t 48) (.c (.int .i64 0)), none, false, false, [48]⟩,
     ⟨some 50, .mv (.t 49), none, false, false, [49]⟩,
     ⟨some 51, .fa 2 (.t 2), (some (50, false)), true, false, []⟩,
     ⟨some 52, .ld none [] (.o 51), (some (50, false)), true, false, [51]⟩,
     ⟨some 53, .fa 2 (.t 2), (some (50, false)), true, false, []⟩,
     ⟨some 54, .ld none [] (.o 53), (some (50, false)), true, false, [53]⟩,
     ⟨some 55, .mv (.t 6), (some (50, false)), true, false, []⟩,
     ⟨some 56, .ia 1 [.int .i64 0] (.o 54) (.o 55), (some (50, false)), true, false, [54, 55]⟩,
     ⟨some 57, .ld none [.int .i64 0] (.o 56), (some (50, false)), true, false, [56]⟩,
     ⟨some 58, .call (.c (.fn 206 [] [])) [.o 52, .o 57], (some (50, false)), true, false, [52, 57]⟩,
     ⟨some 59, .bin .neq (.o 58) (.c (.int .i64 1)), (some (50, false)), true, false, [58]⟩,
     ⟨some 60, .pick (.t 50) (.c (.bool true)) (.t 59), none, false, false, [50, 59]⟩,
     ⟨some 61, .mv (.t 60), none, false, false, [60]⟩,
     ⟨some 62, .mv (.t 1), (some (61, false)), true, false, []⟩,
     ⟨some 63, .mv (.t 7), (some (61, false)), true, false, []⟩,
     ⟨some 64, .ia 7 [.int .i64 0, .int .i64 0, .int .i64 0, .int .i64 0, .int .i64 0, .int .i64 0, .view []] (.o 62) (.o 63), (some (61, false)), true, false, [62, 63]⟩,
     ⟨some 65, .fa 5 (.o 64), (some (61, false)), true, false, [64]⟩,
     ⟨some 66, .ld none [.int .i64 0, .int .i64 0, .int .i64 0, .int .i64 0, .int .i64 0, .int .i64 0, .view []] (.o 65), (some (61, false)), true, false, [65]⟩,
     ⟨some 67, .mv (.t 1), (some (61, false)), true, false, []⟩,
     ⟨some 68, .mv (.t 7), (some (61, false)), true, false, []⟩,
     ⟨some 69, .ia 7 [.int .i64 0, .int .i64 0, .int .i64 0, .int .i64 0, .int .i64 0, .int .i64 0, .view []] (.o 67) (.o 68), (some (61, false)), true, false, [67, 68]⟩,
     ⟨some 70, .fa 6 (.o 69), (some (61, false)), true, false, [69]⟩,
     ⟨some 71, .ld none [.int .i64 0, .int .i64 0, .int .i64 0, .int .i64 0, .int .i64 0, .int .i64 0, .view []] (.o 70), (some (61, false)), true, false, [70]⟩,
     ⟨some 72, .len (.o 71), (some (61, false)), true, false, [71]⟩,
     ⟨some 73, .bin .geq (.o 66) (.o 72), (some (61, false)), true, false, [66, 72]⟩,
     ⟨some 74, .pick (.t 61) (.c (.bool true)) (.t 73), none, false, false, [61, 73]⟩,
     ⟨some 75, .mv (.t 74), none, false, false, [74]⟩,
     ⟨some 76, .mv (.t 1), (some (75, false)), true, false, []⟩,
     ⟨some 77, .mv (.t 7), (some (75, false)), true, false, []⟩,
     ⟨some 78, .ia 7 [.int .i64 0, .int .i64 0, .int .i64 0, .int .i64 0, .int .i64 0, .int .i64 0, .view []] (.o 76) (.o 77), (some (75, false)), true, false, [76, 77]⟩,
     ⟨some 79, .fa 6 (.o 78), (some (75, false)), true, false, [78]⟩,
     ⟨some 80, .ld none [.int .i64 0, .int .i64 0, .int .i64 0, .int .i64 0, .int .i64 0, .int .i64 0, .view []] (.o 79), (some (75, false)), true, false, [79]⟩,
     ⟨some 81, .mv (.t 1), (some (75, false)), true, false, []⟩,
     ⟨some 82, .mv (.t 7), (some (75, false)), true, false, [7]⟩,
     ⟨some 83, .ia 7 [.int .i64 0, .int .i64 0, .int .i64 0, .int .i64 0, .int .i64 0, .int .i64 0, .view []] (.o 81) (.o 82), (some (75, false)), true, false, [81, 82]⟩,
     ⟨some 84, .fa 5 (.o 83), (some (75, false)), true, false, [83]⟩,
     ⟨some 85, .ld none [.int .i64 0, .int .i64 0, .int .i64 0, .int .i64 0, .int .i64 0, .int .i64 0, .view []] (.o 84), (some (75, false)), true, false, [84]⟩,
     ⟨some 86, .ia 1 [.int .i64 0] (.o 80) (.o 85), (some (75, false)), true, false, [80, 85]⟩,
     ⟨some 87, .ld none [.int .i64 0] (.o 86), (some (75, false)), true, false, [86]⟩,
     ⟨some 88, .fa 0 (.t 2), (some (75, false)), true, false, []⟩,
     ⟨some 89, .ld none [] (.o 88), (some (75, false)), true, false, [88]⟩,
     ⟨some 90, .bin .neq (.o 87) (.o 89), (some (75, false)), true, false, [87, 89]⟩,
     ⟨some 91, .pick (.t 75) (.c (.bool true)) (.t 90), none, false, false, [75, 90]⟩])
    (.cond (.t 91)
     (.seq (.ops 10 false [⟨some 4, .mv (.c (.bool false)), none, false, false, []⟩])
     (.ret))
     (.skip)))))
   (.ops 7 false [⟨some 39, .mv (.t 6), none, false, false, [6]⟩,
    ⟨some 40, .bin .add (.t 39) (.c (.int .i64 1)), none, false, false, [39]⟩,
    ⟨some 6, .mv (.t 40), none, false, false, [40]⟩]))))))
 (.seq (.ops 11 false [⟨some 4, .mv (.c (.bool true)), none, false, false, []⟩])
 (.ret))))
def rs_r21_lock : List IRes := [.t 4]
theorem ok_r21_lock : fnOk Try.prog 117 ic_r21_lock rs_r21_lock 92 = true := by kernel_rfl

/-- tallyman/tallymanref21.Right -/
def ic_r21_Right : ICode :=
 .seq (.ops 0 false [⟨some 4, .mv (.c (.bool false)), none, false, false, [4]⟩])
 (.seq (.seq (.ops 1 false [⟨some 5, .mv (.c (.int .i64 1)), none, false, false, []⟩])
 (.block 0 (.loop [0, 1, 5] (.seq (.seq (.ops 2 false [⟨some 9, .mv (.t 5), none, false, false, []⟩,
    ⟨some 10, .mv (.t 1), none, false, false, []⟩,
    ⟨some 11, .len (.t 10), none, false, false, [10]⟩,
    ⟨some 12, .bin .lss (.t 9) (.t 11), none, false, false, [9, 11]⟩])
   (.cond (.t 12)
    (.skip)
    (.exit 0)))
   (.seq (.block 1 (.seq (.ops 4 true [⟨some 15, .mv (.t 1), none, false, false, []⟩,
     ⟨some 16, .mv (.t 5), none, false, false, []⟩,
     ⟨some 17, .ia 3 [.int .i64 0, .int .i64 0, .view []] (.t 15) (.t 16), none, false, false, [15, 16]⟩,
     ⟨some 18, .fa 0 (.t 17), none, false, false, [17]⟩,
     ⟨some 19, .ld none [.int .i64 0, .int .i64 0, .view []] (.t 18), none, false, false, [18]⟩,
     ⟨some 20, .mv (.t 1), none, false, false, []⟩,
     ⟨some 21, .mv (.t 5), none, false, false, []⟩,
     ⟨some 22, .bin .sub (.t 21) (.c (.int .i64 1)), none, false, false, [21]⟩,
     ⟨some 23, .ia 3 [.int .i64 0, .int .i64 0, .view []] (.t 20) (.t 22), none, false, false, [20, 22]⟩,
     ⟨some 24, .fa 0 (.t 23), none, false, false, [23]⟩,
     ⟨some 25, .ld none [.int .i64 0, .int .i64 0, .view []] (.t 24), none, false, false, [24]⟩,
     ⟨some 26, .bin .leq (.t 19) (.t 25), none, false, false, [19, 25]⟩])
    (.cond (.t 26)
     (.seq (.ops 5 false [⟨some 4, .mv (.c (.bool false)), none, false, false, []⟩])
     (.ret))
     (.skip))))
   (.ops 3 false [⟨some 13, .mv (.t 5), none, false, false, [5]⟩,
    ⟨some 14, .bin .add (.t 13) (.c (.int .i64 1)), none, false, false, [13]⟩,
    ⟨some 5, .mv (.t 14), none, false, false, [14]⟩]))))))
 (.seq (.ops 6 false [⟨some 6, .mv (.c (.int .i64 0)), none, false, false, []⟩])
 (.seq (.seq (.ops 7 false [⟨some 7, .mv (.c (.int .i64 0)), none, false, false, []⟩])
 (.block 2 (.loop [0, 1, 6, 7] (.seq (.seq (.ops 8 false [⟨some 27, .mv (.t 7), none, false, false, []⟩,
    ⟨some 28, .mv (.t 0), none, false, false, []⟩,
    ⟨some 29, .len (.t 28), none, false, false, [28]⟩,
    ⟨some 30, .bin .lss (.t 27) (.t 29), none, false, false, [27, 29]⟩])
   (.cond (.t 30)
    (.skip)
    (.exit 2)))
   (.seq (.block 3 (.seq (.seq (.ops 10 false [⟨some 33, .mv (.t 0), none, false, false, []⟩,
     ⟨some 34, .mv (.t 7), none, false, false, []⟩,
     ⟨some 35, .ia 7 [.int .i64 0, .int .i64 0, .int .i64 0, .int .i64 0, .int .i64 0, .int .i64 0, .view []] (.t 33) (.t 34), none, false, false, [33, 34]⟩,
     ⟨some 36, .fa 0 (.t 35), none, false, false, [35]⟩,
     ⟨some 37, .ld none [.int .i64 0, .int .i64 0, .int .i64 0, .int .i64 0, .int .i64 0, .int .i64 0, .view []] (.t 36), none, false, false, [36]⟩,
     ⟨some 38, .mv (.t 6), none, false, false, [6]⟩,
     ⟨some 39, .bin .leq (.t 37) (.t 38), none, false, false, [37, 38]⟩,
     ⟨some 40, .mv (.t 39), none, false, false, [39]⟩,
     ⟨some 41, .mv (.t 0), (some (40, false)), true, false, []⟩,
     ⟨some 42, .mv (.t 7), (some (40, false)), true, false, []⟩,
     ⟨some 43, .ia 7 [.int .i64 0, .int .i64 0, .int .i64 0, .int .i64 0, .int .i64 0, .int .i64 0, .view []] (.o 41) (.o 42), (some (40, false)), true, false, [41, 42]⟩,
     ⟨some 44, .ld (some 7) [.int .i64 0, .int .i64 0, .int .i64 0, .int .i64 0, .int .i64 0, .int .i64 0, .view []] (.o 43), (some (40, false)), true, false, [43]⟩,
     ⟨some 45, .mv (.t 1), (some (40, false)), true, false, []⟩,
     ⟨some 46, .call (.c (.fn 116 [] [])) [.o 44, .o 45], (some (40, false)), true, false, [44, 45]⟩,
     ⟨some 47, .not (.o 46), (some (40, false)), true, false, [46]⟩,
     ⟨some 48, .pick (.t 40) (.c (.bool true)) (.t 47), none, false, false, [40, 47]⟩])
    (.cond (.t 48)
     (.seq (.ops 11 false [⟨some 4, .mv (.c (.bool false)), none, false, false, []⟩])
     (.ret))
     (.skip)))
    (.ops 12 false [⟨some 49, .mv (.t 0), none, false, false, []⟩,
     ⟨some 50, .mv (.t 7), none, false, false, []⟩,
     ⟨some 51, .ia 7 [.int .i64 0, .int .i64 0, .int .i64 0, .int .i64 0, .int .i64 0, .int .i64 0, .view []] (.t 49) (.t 50), none, false, false, [49, 50]⟩,
     ⟨some 52, .fa 0 (.t 51), none, false, false, [51]⟩,
     ⟨some 53, .ld none [.int .i64 0, .int .i64 0, .int .i64 0, .int .i64 0, .int .i64 0, .int .i64 0, .view []] (.t 52), none, false, false, [52]⟩,
     ⟨some 6, .mv (.t 53), none, false, false, [53]⟩])))
   (.ops 9 false [⟨some 31, .mv (.t 7), none, false, false, [7]⟩,
    ⟨some 32, .bin .add (.t 31) (.c (.int .i64 1)), none, false, false, [31]⟩,
    ⟨some 7, .mv (.t 32), none, false, false, [32]⟩]))))))
 (.seq (.seq (.ops 13 false [⟨some 8, .mv (.c (.int .i64 0)), none, false, false, []⟩])
 (.block 4 (.loop [0, 1, 8] (.seq (.seq (.ops 14 false [⟨some 54, .mv (.t 8), none, false, false, []⟩,
    ⟨some 55, .mv (.t 1), none, false, false, []⟩,
    ⟨some 56, .len (.t 55), none, false, false, [55]⟩,
    ⟨some 57, .bin .lss (.t 54) (.t 56), none, false, false, [54, 56]⟩])
   (.cond (.t 57)
    (.skip)
    (.exit 4)))
   (.seq (.block 5 (.seq (.ops 16 false [⟨some 60, .mv (.t 1), none, false, false, []⟩,
     ⟨some 61, .mv (.t 8), none, false, false, []⟩,
     ⟨some 62, .ia 3 [.int .i64 0, .int .i64 0, .view []] (.t 60) (.t 61), none, false, false, [60, 61]⟩,
     ⟨some 63, .ld (some 3) [.int .i64 0, .int .i64 0, .view []] (.t 62), none, false, false, [62]⟩,
     ⟨some 64, .mv (.t 0), none, false, false, []⟩,
     ⟨some 65, .call (.c (.fn 117 [] [])) [.t 63, .t 64], none, false, false, [63, 64]⟩,
     ⟨some 66, .not (.t 65), none, false, false, [65]⟩])
    (.cond (.t 66)
     (.seq (.ops 17 false [⟨some 4, .mv (.c (.bool false)), none, false, false, []⟩])
     (.ret))
     (.skip))))
   (.ops 15 false [⟨some 58, .mv (.t 8), none, false, false, [8]⟩,
    ⟨some 59, .bin .add (.t 58) (.c (.int .i64 1)), none, false, false, [58]⟩,
    ⟨some 8, .mv (.t 59), none, false, false, [59]⟩]))))))
 (.seq (.ops 18 false [⟨some 4, .mv (.c (.bool true)), none, false, false, []⟩])
 (.ret))))))
def rs_r21_Right : List IRes := [.t 4]
theorem ok_r21_Right : fnOk Try.prog 25 ic_r21_Right rs_r21_Right 67 = true := by kernel_rfl

/-- tallyman/tallymanref21.Arcs -/
def ic_r21_Arcs : ICode :=
 .seq (.ops 0 false [⟨some 4, .mv (.c (.nils)), none, false, false, [4]⟩])
 (.seq (.ops 1 false [⟨some 5, .mv (.c (.nils)), none, false, false, []⟩])
 (.seq (.seq (.ops 2 false [⟨some 6, .mv (.c (.int .i64 0)), none, false, false, []⟩])
 (.block 0 (.loop [0, 1, 5, 6] (.seq (.seq (.ops 3 false [⟨some 8, .mv (.t 6), none, false, false, []⟩,
    ⟨some 9, .mv (.t 0), none, false, false, []⟩,
    ⟨some 10, .len (.t 9), none, false, false, [9]⟩,
    ⟨some 11, .bin .lss (.t 8) (.t 10), none, false, false, [8, 10]⟩])
   (.cond (.t 11)
    (.skip)
    (.exit 0)))
   (.seq (.block 1 (.seq (.ops 5 false [⟨some 14, .mv (.t 0), none, false, false, []⟩,
     ⟨some 15, .mv (.t 6), none, false, false, []⟩,
     ⟨some 16, .ia 7 [.int .i64 0, .int .i64 0, .int .i64 0, .int .i64 0, .int .i64 0, .int .i64 0, .view []] (.t 14) (.t 15), none, false, false, [14, 15]⟩,
     ⟨some 17, .ld (some 7) [.int .i64 0, .int .i64 0, .int .i64 0, .int .i64 0, .int .i64 0, .int .i64 0, .view []] (.t 16), none, false, false, [16]⟩,
     ⟨some 18, .mv (.t 1), none, false, false, []⟩,
     ⟨some 19, .call (.c (.fn 121 [] [])) [.t 17, .t 18], none, false, false, [17, 18]⟩,
     ⟨some 7, .mv (.t 19), none, false, false, [19]⟩])
    (.seq (.ops 6 false [⟨some 20, .mv (.t 7), none, false, false, []⟩,
     ⟨some 21, .bin .geq (.t 20) (.c (.int .i64 0)), none, false, false, [20]⟩,
     ⟨some 22, .mv (.t 21), none, false, false, [21]⟩,
     ⟨some 23, .mv (.t 1), (some (22, true)), true, false, []⟩,
     ⟨some 24, .mv (.t 7), (some (22, true)), true, false, []⟩,
     ⟨some 25, .ia 3 [.int .i64 0, .int .i64 0, .view []] (.o 23) (.o 24), (some (22, true)), true, false, [23, 24]⟩,
     ⟨some 26, .fa 1 (.o 25), (some (22, true)), true, false, [25]⟩,
     ⟨some 27, .ld none [.int .i64 0, .int .i64 0, .view []] (.o 26), (some (22, true)), true, false, [26]⟩,
     ⟨some 28, .bin .neq (.o 27) (.c (.int .i64 0)), (some (22, true)), true, false, [27]⟩,
     ⟨some 29, .pick (.t 22) (.t 28) (.c (.bool false)), none, false, false, [22, 28]⟩])
    (.cond (.t 29)
     (.ops 7 true [⟨some 30, .mv (.t 5), none, false, false, [5]⟩,
      ⟨some 31, .mv (.t 0), none, false, false, []⟩,
      ⟨some 32, .mv (.t 6), none, false, false, []⟩,
      ⟨some 33, .ia 7 [.int .i64 0, .int .i64 0, .int .i64 0, .int .i64 0, .int .i64 0, .int .i64 0, .view []] (.t 31) (.t 32), none, false, false, [31, 32]⟩,
      ⟨some 34, .fa 0 (.t 33), none, false, false, [33]⟩,
      ⟨some 35, .ld none [.int .i64 0, .int .i64 0, .int .i64 0, .int .i64 0, .int .i64 0, .int .i64 0, .view []] (.t 34), none, false, false, [34]⟩,
      ⟨some 36, .mv (.t 1), none, false, false, []⟩,
      ⟨some 37, .mv (.t 7), none, false, false, [7]⟩,
      ⟨some 38, .ia 3 [.int .i64 0, .int .i64 0, .view []] (.t 36) (.t 37), none, false, false, [36, 37]⟩,
      ⟨some 39, .fa 1 (.t 38), none, false, false, [38]⟩,
      ⟨some 40, .ld none [.int .i64 0, .int .i64 0, .view []] (.t 39), none, false, false, [39]⟩,
      ⟨some 41, .build [.int .i64 0, .int .i64 0] [(0, 1, .t 35), (1, 1, .t 40)], none, false, false, [35, 40]⟩,
      ⟨some 42, .rowView 2 [.t 41], none, false, false, [41]⟩,
      ⟨some 43, .app 2 (.t 30) (.t 42), none, false, false, [30, 42]⟩,
      ⟨some 5, .mv (.t 43), none, false, false, [43]⟩])
     (.skip)))))
   (.ops 4 false [⟨some 12, .mv (.t 6), none, false, false, [6]⟩,
    ⟨some 13, .bin .add (.t 12) (.c (.int .i64 1)), none, false, false, [12]⟩,
    ⟨some 6, .mv (.t 13), none, false, false, [13]⟩]))))))
 (.seq (.ops 8 false [⟨some 44, .mv (.t 5), none, false, false, [5]⟩,
  ⟨some 4, .mv (.t 44), none, false, false, [44]⟩])
 (.ret))))
def rs_r21_Arcs : List IRes := [.t 4]
theorem ok_r21_Arcs : fnOk Try.prog 30 ic_r21_Arcs rs_r21_Arcs 45 = true := by kernel_rfl

/-- tallyman/tallymanref21.Ring -/
def ic_r21_Ring : ICode :=
 .seq (.ops 0 false [⟨some 4, .mv (.c (.bool false)), none, false, false, [4]⟩])
 (.seq (.ops 1 false [⟨some 8, .mv (.t 0), none, false, false, [0]⟩,
  ⟨some 9, .mv (.t 1), none, false, false, [1]⟩,
  ⟨some 10, .call (.c (.fn 30 [] [])) [.t 8, .t 9], none, false, false, [8, 9]⟩,
  ⟨some 5, .mv (.t 10), none, false, false, [10]⟩])
 (.seq (.ops 2 false [⟨some 6, .mv (.c (.nils)), none, false, false, []⟩])
 (.seq (.seq (.ops 3 false [⟨some 7, .mv (.c (.int .i64 0)), none, false, false, []⟩])
 (.block 0 (.loop [5, 6, 7] (.seq (.seq (.ops 4 false [⟨some 11, .mv (.t 7), none, false, false, []⟩,
    ⟨some 12, .mv (.t 5), none, false, false, []⟩,
    ⟨some 13, .len (.t 12), none, false, false, [12]⟩,
    ⟨some 14, .bin .lss (.t 11) (.t 13), none, false, false, [11, 13]⟩])
   (.cond (.t 14)
    (.skip)
    (.exit 0)))
   (.seq (.block 1 (.ops 6 true [⟨some 17, .mv (.t 6), none, false, false, [6]⟩,
     ⟨some 18, .mv (.t 5), none, false, false, []⟩,
     ⟨some 19, .mv (.t 7), none, false, false, []⟩,
     ⟨some 20, .ia 2 [.int .i64 0, .int .i64 0] (.t 18) (.t 19), none, false, false, [18, 19]⟩,
     ⟨some 21, .fa 0 (.t 20), none, false, false, [20]⟩,
     ⟨some 22, .ld none [.int .i64 0, .int .i64 0] (.t 21), none, false, false, [21]⟩,
     ⟨some 23, .mv (.t 5), none, false, false, []⟩,
     ⟨some 24, .mv (.t 7), none, false, false, []⟩,
     ⟨some 25, .ia 2 [.int .i64 0, .int .i64 0] (.t 23) (.t 24), none, false, false, [23, 24]⟩,
     ⟨some 26, .fa 1 (.t 25), none, false, false, [25]⟩,
     ⟨some 27, .ld none [.int .i64 0, .int .i64 0] (.t 26), none, false, false, [26]⟩,
     ⟨some 28, .rowView 1 [.t 22, .t 27], none, false, false, [22, 27]⟩,
     ⟨some 29, .app 1 (.t 17) (.t 28), none, false, false, [17, 28]⟩,
     ⟨some 6, .mv (.t 29), none, false, false, [29]⟩]))
   (.ops 5 false [⟨some 15, .mv (.t 7), none, false, false, [7]⟩,
    ⟨some 16, .bin .add (.t 15) (.c (.int .i64 1)), none, false, false, [15]⟩,
    ⟨some 7, .mv (.t 16), none, false, false, [16]⟩]))))))
 (.seq (.ops 7 false [⟨some 30, .mv (.t 6), none, false, false, [6]⟩,
  ⟨some 31, .mv (.t 5), none, false, false, [5]⟩,
  ⟨some 32, .call (.c (.fn 119 [] [])) [.t 30, .t 31], none, false, false, [30, 31]⟩,
  ⟨some 33, .len (.t 32), none, false, false, [32]⟩,
  ⟨some 34, .bin .gtr (.t 33) (.c (.int .i64 0)), none, false, false, [33]⟩,
  ⟨some 4, .mv (.t 34), none, false, false, [34]⟩])
 (.ret)))))
def rs_r21_Ring : List IRes := [.t 4]
theorem ok_r21_Ring : fnOk Try.prog 27 ic_r21_Ring rs_r21_Ring 35 = true := by kernel_rfl

/-- tallyman/tallymanref21.next -/
def ic_r21_next : ICode :=
 .seq (.ops 0 false [⟨some 4, .mv (.c (.int .i64 0)), none, false, false, [4]⟩,
  ⟨some 5, .mv (.c (.bool false)), none, false, false, [5]⟩])
 (.seq (.seq (.ops 1 false [⟨some 6, .mv (.c (.int .i64 0)), none, false, false, []⟩])
 (.block 0 (.loop [0, 1, 6] (.seq (.seq (.ops 2 false [⟨some 7, .mv (.t 6), none, false, false, []⟩,
    ⟨some 8, .mv (.t 0), none, false, false, []⟩,
    ⟨some 9, .len (.t 8), none, false, false, [8]⟩,
    ⟨some 10, .bin .lss (.t 7) (.t 9), none, false, false, [7, 9]⟩])
   (.cond (.t 10)
    (.skip)
    (.exit 0)))
   (.seq (.block 1 (.seq (.ops 4 false [⟨some 13, .mv (.t 0), none, false, false, []⟩,
     ⟨some 14, .mv (.t 6), none, false, false, []⟩,
     ⟨some 15, .ia 2 [.int .i64 0, .int .i64 0] (.t 13) (.t 14), none, false, false, [13, 14]⟩,
     ⟨some 16, .fa 0 (.t 15), none, false, false, [15]⟩,
     ⟨some 17, .ld none [.int .i64 0, .int .i64 0] (.t 16), none, false, false, [16]⟩,
     ⟨some 18, .mv (.t 1), none, false, false, []⟩,
     ⟨some 19, .bin .eql (.t 17) (.t 18), none, false, false, [17, 18]⟩])
    (.cond (.t 19)
     (.seq (.ops 5 false [⟨some 20, .mv (.t 0), none, false, false, [0]⟩,
      ⟨some 21, .mv (.t 6), none, false, false, [6]⟩,
      ⟨some 22, .ia 2 [.int .i64 0, .int .i64 0] (.t 20) (.t 21), none, false, false, [20, 21]⟩,
      ⟨some 23, .fa 1 (.t 22), none, false, false, [22]⟩,
      ⟨some 24, .ld none [.int .i64 0, .int .i64 0] (.t 23), none, false, false, [23]⟩,
      ⟨some 4, .mv (.t 24), none, false, false, [24]⟩,
      ⟨some 5, .mv (.c (.bool true)), none, false, false, []⟩])
     (.ret))
     (.skip))))
   (.ops 3 false [⟨some 11, .mv (.t 6), none, false, false, [6]⟩,
    ⟨some 12, .bin .add (.t 11) (.c (.int .i64 1)), none, false, false, [11]⟩,
    ⟨some 6, .mv (.t 12), none, false, false, [12]⟩]))))))
 (.seq (.ops 6 false [⟨some 4, .mv (.c (.int .i64 0)), none, false, false, []⟩,
  ⟨some 5, .mv (.c (.bool false)), none, false, false, []⟩])
 (.ret)))
def rs_r21_next : List IRes := [.t 4, .t 5]
theorem ok_r21_next : fnOk Try.prog 125 ic_r21_next rs_r21_next 25 = true := by kernel_rfl

/-- tallyman/tallymanref21.Chain -/
def ic_r21_Chain : ICode :=
 .seq (.ops 0 false [⟨some 6, .mv (.c (.nils)), none, false, false, [6]⟩])
 (.seq (.ops 1 false [⟨some 11, .mv (.t 0), none, false, false, [0]⟩,
  ⟨some 12, .mv (.t 1), none, false, false, [1]⟩,
  ⟨some 13, .call (.c (.fn 30 [] [])) [.t 11, .t 12], none, false, false, [11, 12]⟩,
  ⟨some 7, .mv (.t 13), none, false, false, [13]⟩])
 (.seq (.ops 2 false [⟨some 14, .mv (.t 2), none, false, false, [2]⟩,
  ⟨some 15, .rowOwn 1 [.t 14], none, false, false, [14]⟩,
  ⟨some 8, .mv (.t 15), none, false, false, [15]⟩])
 (.block 0 (.loop [7, 8] (.block 1 (.seq (.ops 3 false [⟨some 17, .mv (.t 7), none, false, false, []⟩,
     ⟨some 18, .mv (.t 8), none, false, false, []⟩,
     ⟨some 19, .mv (.t 8), none, false, false, []⟩,
     ⟨some 20, .len (.t 19), none, false, false, [19]⟩,
     ⟨some 21, .bin .sub (.t 20) (.c (.int .i64 1)), none, false, false, [20]⟩,
     ⟨some 22, .ia 1 [.int .i64 0] (.t 18) (.t 21), none, false, false, [18, 21]⟩,
     ⟨some 23, .ld none [.int .i64 0] (.t 22), none, false, false, [22]⟩,
     ⟨some 24, .call (.c (.fn 125 [] [])) [.t 17, .t 23], none, false, false, [17, 23]⟩,
     ⟨some 16, .mv (.t 24), none, false, false, [24]⟩,
     ⟨some 25, .ext 0 (.t 16), none, false, false, []⟩,
     ⟨some 26, .ext 1 (.t 16), none, false, false, [16]⟩,
     ⟨some 9, .mv (.t 25), none, false, false, [25]⟩,
     ⟨some 10, .mv (.t 26), none, false, false, [26]⟩])
    (.seq (.seq (.ops 4 false [⟨some 27, .mv (.t 10), none, false, false, [10]⟩,
     ⟨some 28, .not (.t 27), none, false, false, [27]⟩,
     ⟨some 29, .mv (.t 28), none, false, false, [28]⟩,
     ⟨some 30, .mv (.t 8), (some (29, false)), true, false, []⟩,
     ⟨some 31, .mv (.t 9), (some (29, false)), true, false, []⟩,
     ⟨some 32, .call (.c (.fn 52 [] [])) [.o 30, .o 31], (some (29, false)), true, false, [30, 31]⟩,
     ⟨some 33, .pick (.t 29) (.c (.bool true)) (.t 32), none, false, false, [29, 32]⟩])
    (.cond (.t 33)
     (.seq (.ops 5 false [⟨some 34, .mv (.t 8), none, false, false, [8]⟩,
      ⟨some 6, .mv (.t 34), none, false, false, [34]⟩])
     (.ret))
     (.skip)))
    (.ops 6 false [⟨some 35, .mv (.t 8), none, false, false, [8]⟩,
     ⟨some 36, .mv (.t 9), none, false, false, [9]⟩,
     ⟨some 37, .rowView 1 [.t 36], none, false, false, [36]⟩,
     ⟨some 38, .app 1 (.t 35) (.t 37), none, false, false, [35, 37]⟩,
     ⟨some 8, .mv (.t 38), none, false, false, [38]⟩]))))))))
def rs_r21_Chain : List IRes := [.t 6]
theorem ok_r21_Chain : fnOk Try.prog 33 ic_r21_Chain rs_r21_Chain 39 = true := by kernel_rfl

/-- tallyman/tallymanref21.Ready -/
def ic_r21_Ready : ICode :=
 .seq (.ops 0 false [⟨some 4, .mv (.c (.nils)), none, false, false, [4]⟩])
 (.seq (.ops 1 false [⟨some 5, .mv (.c (.nils)), none, false, false, []⟩])
 (.seq (.seq (.ops 2 false [⟨some 6, .mv (.c (.int .i64 0)), none, false, false, []⟩])
 (.block 0 (.loop [0, 1, 5, 6] (.seq (.seq (.ops 3 false [⟨some 9, .mv (.t 6), none, false, false, []⟩,
    ⟨some 10, .mv (.t 0), none, false, false, []⟩,
    ⟨some 11, .len (.t 10), none, false, false, [10]⟩,
    ⟨some 12, .bin .lss (.t 9) (.t 11), none, false, false, [9, 11]⟩])
   (.cond (.t 12)
    (.skip)
    (.exit 0)))
   (.seq (.block 1 (.seq (.ops 5 false [⟨some 15, .mv (.t 0), none, false, false, []⟩,
     ⟨some 16, .mv (.t 6), none, false, false, []⟩,
     ⟨some 17, .ia 7 [.int .i64 0, .int .i64 0, .int .i64 0, .int .i64 0, .int .i64 0, .int .i64 0, .view []] (.t 15) (.t 16), none, false, false, [15, 16]⟩,
     ⟨some 18, .ld (some 7) [.int .i64 0, .int .i64 0, .int .i64 0, .int .i64 0, .int .i64 0, .int .i64 0, .view []] (.t 17), none, false, false, [17]⟩,
     ⟨some 7, .alloc [.int .i64 0, .int .i64 0, .int .i64 0, .int .i64 0, .int .i64 0, .int .i64 0, .nils], none, false, false, []⟩,
     ⟨none, .st 7 (.t 7) (.t 18), none, false, false, [18]⟩])
    (.seq (.ops 6 false [⟨some 19, .ld (some 7) [] (.t 7), none, false, false, []⟩,
     ⟨some 20, .mv (.t 1), none, false, false, []⟩,
     ⟨some 21, .call (.c (.fn 121 [] [])) [.t 19, .t 20], none, false, false, [19, 20]⟩,
     ⟨some 8, .mv (.t 21), none, false, false, [21]⟩])
    (.seq (.ops 7 true [⟨some 22, .fa 5 (.t 7), none, false, false, []⟩,
     ⟨some 23, .ld none [] (.t 22), none, false, false, [22]⟩,
     ⟨some 24, .fa 6 (.t 7), none, false, false, []⟩,
     ⟨some 25, .ld none [] (.t 24), none, false, false, [24]⟩,
     ⟨some 26, .len (.t 25), none, false, false, [25]⟩,
     ⟨some 27, .bin .eql (.t 23) (.t 26), none, false, false, [23, 26]⟩,
     ⟨some 28, .mv (.t 27), none, false, false, [27]⟩,
     ⟨some 29, .mv (.t 8), (some (28, false)), true, false, []⟩,
     ⟨some 30, .bin .geq (.o 29) (.c (.int .i64 0)), (some (28, false)), true, false, [29]⟩,
     ⟨some 31, .mv (.o 30), (some (28, false)), true, false, [30]⟩,
     ⟨some 32, .mv (.t 1), (some (31, true)), true, false, []⟩,
     ⟨some 33, .mv (.t 8), (some (31, true)), true, false, []⟩,
     ⟨some 34, .ia 3 [.int .i64 0, .int .i64 0, .view []] (.o 32) (.o 33), (some (31, true)), true, false, [32, 33]⟩,
     ⟨some 35, .fa 1 (.o 34), (some (31, true)), true, false, [34]⟩,
     ⟨some 36, .ld none [.int .i64 0, .int .i64 0, .view []] (.o 35), (some (31, true)), true, false, [35]⟩,
     ⟨some 37, .bin .eql (.o 36) (.c (.int .i64 0)), (some (31, true)), true, false, [36]⟩,
     ⟨some 38, .pick (.o 31) (.t 37) (.c (.bool false)), (some (28, false)), true, false, [31, 37]⟩,
     ⟨some 39, .mv (.o 38), (some (28, false)), true, false, [38]⟩,
     ⟨some 40, .mv (.t 1), (some (39, true)), true, false, []⟩,
     ⟨some 41, .mv (.t 8), (some (39, true)), true, false, []⟩,
     ⟨some 42, .ia 3 [.int .i64 0, .int .i64 0, .view []] (.o 40) (.o 41), (some (39, true)), true, false, [40, 41]⟩,
     ⟨some 43, .fa 2 (.o 42), (some (39, true)), true, false, [42]⟩,
     ⟨some 44, .ld none [.int .i64 0, .int .i64 0, .view []] (.o 43), (some (39, true)), true, false, [43]⟩,
     ⟨some 45, .len (.o 44), (some (39, true)), true, false, [44]⟩,
     ⟨some 46, .bin .gtr (.o 45) (.c (.int .i64 0)), (some (39, true)), true, false, [45]⟩,
     ⟨some 47, .pick (.o 39) (.t 46) (.c (.bool false)), (some (28, false)), true, false, [39, 46]⟩,
     ⟨some 48, .mv (.o 47), (some (28, false)), true, false, [47]⟩,
     ⟨some 49, .mv (.t 1), (some (48, true)), true, false, []⟩,
     ⟨some 50, .mv (.t 8), (some (48, true)), true, false, [8]⟩,
     ⟨some 51, .ia 3 [.int .i64 0, .int .i64 0, .view []] (.o 49) (.o 50), (some (48, true)), true, false, [49, 50]⟩,
     ⟨some 52, .fa 2 (.o 51), (some (48, true)), true, false, [51]⟩,
     ⟨some 53, .ld none [.int .i64 0, .int .i64 0, .view []] (.o 52), (some (48, true)), true, false, [52]⟩,
     ⟨some 54, .ia 1 [.int .i64 0] (.o 53) (.c (.int .i64 0)), (some (48, true)), true, false, [53]⟩,
     ⟨some 55, .ld none [.int .i64 0] (.o 54), (some (48, true)), true, false, [54]⟩,
     ⟨some 56, .fa 0 (.t 7), (some (48, true)), true, false, []⟩,
     ⟨some 57, .ld none [] (.o 56), (some (48, true)), true, false, [56]⟩,
     ⟨some 58, .bin .eql (.o 55) (.o 57), (some (48, true)), true, false, [55, 57]⟩,
     ⟨some 59, .pick (.o 48) (.t 58) (.c (.bool false)), (some (28, false)), true, false, [48, 58]⟩,
     ⟨some 60, .pick (.t 28) (.c (.bool true)) (.t 59), none, false, false, [28, 59]⟩])
    (.cond (.t 60)
     (.ops 8 false [⟨some 61, .mv (.t 5), none, false, false, [5]⟩,
      ⟨some 62, .fa 0 (.t 7), none, false, false, [7]⟩,
      ⟨some 63, .ld none [] (.t 62), none, false, false, [62]⟩,
      ⟨some 64, .rowView 1 [.t 63], none, false, false, [63]⟩,
      ⟨some 65, .app 1 (.t 61) (.t 64), none, false, false, [61, 64]⟩,
      ⟨some 5, .mv (.t 65), none, false, false, [65]⟩])
     (.skip))))))
   (.ops 4 false [⟨some 13, .mv (.t 6), none, false, false, [6]⟩,
    ⟨some 14, .bin .add (.t 13) (.c (.int .i64 1)), none, false, false, [13]⟩,
    ⟨some 6, .mv (.t 14), none, false, false, [14]⟩]))))))
 (.seq (.ops 9 false [⟨some 66, .mv (.t 5), none, false, false, [5]⟩,
  ⟨some 4, .mv (.t 66), none, false, false, [66]⟩])
 (.ret))))
def rs_r21_Ready : List IRes := [.t 4]
theorem ok_r21_Ready : fnOk Try.prog 35 ic_r21_Ready rs_r21_Ready 67 = true := by kernel_rfl

/-- tallyman/tallymanref21.Few -/
def ic_r21_Few : ICode :=
 .seq (.ops 0 false [⟨some 4, .mv (.c (.bool false)), none, false, false, [4]⟩])
 (.seq (.seq (.ops 1 false [⟨some 7, .mv (.t 0), none, false, false, []⟩,
  ⟨some 8, .len (.t 7), none, false, false, [7]⟩,
  ⟨some 9, .bin .gtr (.t 8) (.c (.int .i64 30)), none, false, false, [8]⟩,
  ⟨some 10, .mv (.t 9), none, false, false, [9]⟩,
  ⟨some 11, .mv (.t 1), (some (10, false)), true, false, []⟩,
  ⟨some 12, .len (.o 11), (some (10, false)), true, false, [11]⟩,
  ⟨some 13, .bin .gtr (.o 12) (.c (.int .i64 40)), (some (10, false)), true, false, [12]⟩,
  ⟨some 14, .pick (.t 10) (.c (.bool true)) (.t 13), none, false, false, [10, 13]⟩])
 (.cond (.t 14)
  (.seq (.ops 2 false [⟨some 4, .mv (.c (.bool false)), none, false, false, []⟩])
  (.ret))
  (.skip)))
 (.seq (.seq (.ops 3 false [⟨some 5, .mv (.c (.int .i64 0)), none, false, false, []⟩])
 (.block 0 (.loop [0, 1, 5] (.seq (.seq (.ops 4 false [⟨some 15, .mv (.t 5), none, false, false, []⟩,
    ⟨some 16, .mv (.t 0), none, false, false, []⟩,
    ⟨some 17, .len (.t 16), none, false, false, [16]⟩,
    ⟨some 18, .bin .lss (.t 15) (.t 17), none, false, false, [15, 17]⟩])
   (.cond (.t 18)
    (.skip)
    (.exit 0)))
   (.seq (.block 1 (.seq (.ops 6 false [⟨some 21, .mv (.t 0), none, false, false, []⟩,
     ⟨some 22, .mv (.t 5), none, false, false, []⟩,
     ⟨some 23, .ia 7 [.int .i64 0, .int .i64 0, .int .i64 0, .int .i64 0, .int .i64 0, .int .i64 0, .view []] (.t 21) (.t 22), none, false, false, [21, 22]⟩,
     ⟨some 24, .fa 6 (.t 23), none, false, false, [23]⟩,
     ⟨some 25, .ld none [.int .i64 0, .int .i64 0, .int .i64 0, .int .i64 0, .int .i64 0, .int .i64 0, .view []] (.t 24), none, false, false, [24]⟩,
     ⟨some 26, .len (.t 25), none, false, false, [25]⟩,
     ⟨some 27, .bin .gtr (.t 26) (.c (.int .i64 40)), none, false, false, [26]⟩])
    (.cond (.t 27)
     (.seq (.ops 7 false [⟨some 4, .mv (.c (.bool false)), none, false, false, []⟩])
     (.ret))
     (.skip))))
   (.ops 5 false [⟨some 19, .mv (.t 5), none, false, false, [5]⟩,
    ⟨some 20, .bin .add (.t 19) (.c (.int .i64 1)), none, false, false, [19]⟩,
    ⟨some 5, .mv (.t 20), none, false, false, [20]⟩]))))))
 (.seq (.seq (.ops 8 false [⟨some 6, .mv (.c (.int .i64 0)), none, false, false, []⟩])
 (.block 2 (.loop [1, 6] (.seq (.seq (.ops 9 false [⟨some 28, .mv (.t 6), none, false, false, []⟩,
    ⟨some 29, .mv (.t 1), none, false, false, []⟩,
    ⟨some 30, .len (.t 29), none, false, false, [29]⟩,
    ⟨some 31, .bin .lss (.t 28) (.t 30), none, false, false, [28, 30]⟩])
   (.cond (.t 31)
    (.skip)
    (.exit 2)))
   (.seq (.block 3 (.seq (.ops 11 false [⟨some 34, .mv (.t 1), none, false, false, []⟩,
     ⟨some 35, .mv (.t 6), none, false, false, []⟩,
     ⟨some 36, .ia 3 [.int .i64 0, .int .i64 0, .view []] (.t 34) (.t 35), none, false, false, [34, 35]⟩,
     ⟨some 37, .fa 2 (.t 36), none, false, false, [36]⟩,
     ⟨some 38, .ld none [.int .i64 0, .int .i64 0, .view []] (.t 37), none, false, false, [37]⟩,
     ⟨some 39, .len (.t 38), none, false, false, [38]⟩,
     ⟨some 40, .bin .gtr (.t 39) (.c (.int .i64 40)), none, false, false, [39]⟩])
    (.cond (.t 40)
     (.seq (.ops 12 false [⟨some 4, .mv (.c (.bool false)), none, false, false, []⟩])
     (.ret))
     (.skip))))
   (.ops 10 false [⟨some 32, .mv (.t 6), none, false, false, [6]⟩,
    ⟨some 33, .bin .add (.t 32) (.c (.int .i64 1)), none, false, false, [32]⟩,
    ⟨some 6, .mv (.t 33), none, false, false, [33]⟩]))))))
 (.seq (.ops 13 false [⟨some 4, .mv (.c (.bool true)), none, false, false, []⟩])
 (.ret)))))
def rs_r21_Few : List IRes := [.t 4]
theorem ok_r21_Few : fnOk Try.prog 22 ic_r21_Few rs_r21_Few 41 = true := by kernel_rfl

/-- tallyman/tallymanref21.Arrows -/
def ic_r21_Arrows : ICode :=
 .seq (.ops 0 false [⟨some 4, .mv (.c (.bool false)), none, false, false, [4]⟩])
 (.seq (.seq (.ops 1 false [⟨some 6, .mv (.t 0), none, false, false, []⟩,
  ⟨some 7, .len (.t 6), none, false, false, [6]⟩,
  ⟨some 8, .mv (.t 1), none, false, false, []⟩,
  ⟨some 9, .len (.t 8), none, false, false, [8]⟩,
  ⟨some 10, .bin .neq (.t 7) (.t 9), none, false, false, [7, 9]⟩])
 (.cond (.t 10)
  (.seq (.ops 2 false [⟨some 4, .mv (.c (.bool false)), none, false, false, []⟩])
  (.ret))
  (.skip)))
 (.seq (.seq (.ops 3 false [⟨some 5, .mv (.c (.int .i64 0)), none, false, false, []⟩])
 (.block 0 (.loop [0, 1, 5] (.seq (.seq (.ops 4 false [⟨some 11, .mv (.t 5), none, false, false, []⟩,
    ⟨some 12, .mv (.t 0), none, false, false, []⟩,
    ⟨some 13, .len (.t 12), none, false, false, [12]⟩,
    ⟨some 14, .bin .lss (.t 11) (.t 13), none, false, false, [11, 13]⟩])
   (.cond (.t 14)
    (.skip)
    (.exit 0)))
   (.seq (.block 1 (.seq (.ops 6 true [⟨some 17, .mv (.t 0), none, false, false, []⟩,
     ⟨some 18, .mv (.t 5), none, false, false, []⟩,
     ⟨some 19, .ia 2 [.int .i64 0, .int .i64 0] (.t 17) (.t 18), none, false, false, [17, 18]⟩,
     ⟨some 20, .ld (some 2) [.int .i64 0, .int .i64 0] (.t 19), none, false, false, [19]⟩,
     ⟨some 21, .mv (.t 1), none, false, false, []⟩,
     ⟨some 22, .mv (.t 5), none, false, false, []⟩,
     ⟨some 23, .ia 2 [.int .i64 0, .int .i64 0] (.t 21) (.t 22), none, false, false, [21, 22]⟩,
     ⟨some 24, .ld (some 2) [.int .i64 0, .int .i64 0] (.t 23), none, false, false, [23]⟩,
     ⟨some 25, .eqc true [false, false] (.t 20) (.t 24), none, false, false, [20, 24]⟩])
    (.cond (.t 25)
     (.seq (.ops 7 false [⟨some 4, .mv (.c (.bool false)), none, false, false, []⟩])
     (.ret))
     (.skip))))
   (.ops 5 false [⟨some 15, .mv (.t 5), none, false, false, [5]⟩,
    ⟨some 16, .bin .add (.t 15) (.c (.int .i64 1)), none, false, false, [15]⟩,
    ⟨some 5, .mv (.t 16), none, false, false, [16]⟩]))))))
 (.seq (.ops 8 false [⟨some 4, .mv (.c (.bool true)), none, false, false, []⟩])
 (.ret))))
def rs_r21_Arrows : List IRes := [.t 4]
theorem ok_r21_Arrows : fnOk Try.prog 28 ic_r21_Arrows rs_r21_Arrows 26 = true := by kernel_rfl

/-- tallyman/tallymanlaw21.alive -/
def ic_l21_alive : ICode :=
 .seq (.ops 0 false [⟨some 0, .mv (.c (.bool false)), none, false, false, [0]⟩])
 (.seq (.ops 1 false [⟨some 4, .rowView 1 [.c (.int .i64 1), .c (.int .i64 2)], none, false, false, []⟩,
  ⟨some 5, .build [.int .i64 0, .int .i64 0, .int .i64 0, .int .i64 0, .int .i64 0, .int .i64 0, .nils] [(0, 1, .c (.int .i64 5)), (5, 1, .c (.int .i64 1)), (6, 1, .t 4)], none, false, false, [4]⟩,
  ⟨some 6, .rowView 1 [.c (.int .i64 2)], none, false, false, []⟩,
  ⟨some 7, .build [.int .i64 0, .int .i64 0, .int .i64 0, .int .i64 0, .int .i64 0, .int .i64 0, .nils] [(0, 1, .c (.int .i64 6)), (5, 1, .c (.int .i64 1)), (6, 1, .t 6)], none, false, false, [6]⟩,
  ⟨some 8, .rowView 7 [.t 5, .t 7], none, false, false, [5, 7]⟩,
  ⟨some 1, .mv (.t 8), none, false, false, [8]⟩])
 (.seq (.ops 2 false [⟨some 9, .build [.int .i64 0, .int .i64 0, .nils] [(0, 1, .c (.int .i64 1)), (1, 1, .c (.int .i64 5))], none, false, false, []⟩,
  ⟨some 10, .rowView 1 [.c (.int .i64 5)], none, false, false, []⟩,
  ⟨some 11, .build [.int .i64 0, .int .i64 0, .nils] [(0, 1, .c (.int .i64 2)), (1, 1, .c (.int .i64 6)), (2, 1, .t 10)], none, false, false, [10]⟩,
  ⟨some 12, .rowView 3 [.t 9, .t 11], none, false, false, [9, 11]⟩,
  ⟨some 2, .mv (.t 12), none, false, false, [12]⟩])
 (.seq (.ops 3 false [⟨some 13, .mv (.t 1), none, false, false, []⟩,
  ⟨some 14, .mv (.t 2), none, false, false, []⟩,
  ⟨some 15, .call (.c (.fn 29 [] [])) [.t 13, .t 14], none, false, false, [13, 14]⟩,
  ⟨some 3, .mv (.t 15), none, false, false, [15]⟩])
 (.seq (.ops 4 false [⟨some 16, .mv (.t 1), none, false, false, []⟩,
  ⟨some 17, .mv (.t 2), none, false, false, []⟩,
  ⟨some 18, .call (.c (.fn 24 [] [])) [.t 16, .t 17], none, false, false, [16, 17]⟩,
  ⟨some 19, .mv (.t 18), none, false, false, [18]⟩,
  ⟨some 20, .mv (.t 3), (some (19, true)), true, false, []⟩,
  ⟨some 21, .len (.o 20), (some (19, true)), true, false, [20]⟩,
  ⟨some 22, .bin .eql (.o 21) (.c (.int .i64 1)), (some (19, true)), true, false, [21]⟩,
  ⟨some 23, .pick (.t 19) (.t 22) (.c (.bool false)), none, false, false, [19, 22]⟩,
  ⟨some 24, .mv (.t 23), none, false, false, [23]⟩,
  ⟨some 25, .mv (.t 3), (some (24, true)), true, false, [3]⟩,
  ⟨some 26, .ia 2 [.int .i64 0, .int .i64 0] (.o 25) (.c (.int .i64 0)), (some (24, true)), true, false, [25]⟩,
  ⟨some 27, .ld (some 2) [.int .i64 0, .int .i64 0] (.o 26), (some (24, true)), true, false, [26]⟩,
  ⟨some 28, .build [.int .i64 0, .int .i64 0] [(0, 1, .c (.int .i64 5)), (1, 1, .c (.int .i64 6))], (some (24, true)), true, false, []⟩,
  ⟨some 29, .eqc false [false, false] (.o 27) (.o 28), (some (24, true)), true, false, [27, 28]⟩,
  ⟨some 30, .pick (.t 24) (.t 29) (.c (.bool false)), none, false, false, [24, 29]⟩,
  ⟨some 31, .mv (.t 30), none, false, false, [30]⟩,
  ⟨some 32, .mv (.t 1), (some (31, true)), true, false, []⟩,
  ⟨some 33, .mv (.t 2), (some (31, true)), true, false, []⟩,
  ⟨some 34, .call (.c (.fn 26 [] [])) [.o 32, .o 33], (some (31, true)), true, false, [32, 33]⟩,
  ⟨some 35, .not (.o 34), (some (31, true)), true, false, [34]⟩,
  ⟨some 36, .pick (.t 31) (.t 35) (.c (.bool false)), none, false, false, [31, 35]⟩,
  ⟨some 37, .mv (.t 36), none, false, false, [36]⟩,
  ⟨some 38, .mv (.t 1), (some (37, true)), true, false, []⟩,
  ⟨some 39, .mv (.t 2), (some (37, true)), true, false, []⟩,
  ⟨some 40, .call (.c (.fn 34 [] [])) [.o 38, .o 39], (some (37, true)), true, false, [38, 39]⟩,
  ⟨some 41, .rowView 1 [.c (.int .i64 6)], (some (37, true)), true, false, []⟩,
  ⟨some 42, .call (.c (.fn 31 [] [])) [.o 40, .o 41], (some (37, true)), true, false, [40, 41]⟩,
  ⟨some 43, .pick (.t 37) (.t 42) (.c (.bool false)), none, false, false, [37, 42]⟩,
  ⟨some 44, .mv (.t 43), none, false, false, [43]⟩,
  ⟨some 45, .mv (.t 1), (some (44, true)), true, false, [1]⟩,
  ⟨some 46, .mv (.t 2), (some (44, true)), true, false, [2]⟩,
  ⟨some 47, .call (.c (.fn 32 [] [])) [.o 45, .o 46, .c (.int .i64 5)], (some (44, true)), true, false, [45, 46]⟩,
  ⟨some 48, .rowView 1 [.c (.int .i64 5), .c (.int .i64 6)], (some (44, true)), true, false, []⟩,
  ⟨some 49, .call (.c (.fn 31 [] [])) [.o 47, .o 48], (some (44, true)), true, false, [47, 48]⟩,
  ⟨some 50, .pick (.t 44) (.t 49) (.c (.bool false)), none, false, false, [44, 49]⟩,
  ⟨some 0, .mv (.t 50), none, false, false, [50]⟩])
 (.ret)))))
def rs_l21_alive : List IRes := [.t 0]
theorem ok_l21_alive : fnOk Try.prog 23 ic_l21_alive rs_l21_alive 51 = true := by kernel_rfl

/-- tallyman/tallymanlaw21.WaitsTells -/
def ic_l21_WaitsTells : ICode :=
 .seq (.ops 0 false [⟨some 6, .mv (.c (.bool false)), none, false, false, [6]⟩])
 (.seq (.seq (.ops 1 false [⟨some 7, .mv (.t 0), none, false, false, []⟩,
  ⟨some 8, .mv (.t 1), none, false, false, []⟩,
  ⟨some 9, .call (.c (.fn 22 [] [])) [.t 7, .t 8], none, false, false, [7, 8]⟩,
  ⟨some 10, .not (.t 9), none, false, false, [9]⟩])
 (.cond (.t 10)
  (.seq (.ops 2 false [⟨some 11, .call (.c (.fn 23 [] [])) [], none, false, false, []⟩,
   ⟨some 6, .mv (.t 11), none, false, false, [11]⟩])
  (.ret))
  (.skip)))
 (.seq (.seq (.ops 3 false [⟨some 12, .mv (.t 0), none, false, false, []⟩,
  ⟨some 13, .mv (.t 1), none, false, false, []⟩,
  ⟨some 14, .call (.c (.fn 24 [] [])) [.t 12, .t 13], none, false, false, [12, 13]⟩,
  ⟨some 15, .mv (.t 0), none, false, false, []⟩,
  ⟨some 16, .mv (.t 1), none, false, false, []⟩,
  ⟨some 17, .call (.c (.fn 25 [] [])) [.t 15, .t 16], none, false, false, [15, 16]⟩,
  ⟨some 18, .eqb true (.t 14) (.t 17), none, false, false, [14, 17]⟩,
  ⟨some 19, .mv (.t 18), none, false, false, [18]⟩,
  ⟨some 20, .mv (.t 0), (some (19, false)), true, false, []⟩,
  ⟨some 21, .mv (.t 1), (some (19, false)), true, false, []⟩,
  ⟨some 22, .call (.c (.fn 26 [] [])) [.o 20, .o 21], (some (19, false)), true, false, [20, 21]⟩,
  ⟨some 23, .mv (.t 0), (some (19, false)), true, false, []⟩,
  ⟨some 24, .mv (.t 1), (some (19, false)), true, false, []⟩,
  ⟨some 25, .call (.c (.fn 27 [] [])) [.o 23, .o 24], (some (19, false)), true, false, [23, 24]⟩,
  ⟨some 26, .eqb true (.o 22) (.o 25), (some (19, false)), true, false, [22, 25]⟩,
  ⟨some 27, .pick (.t 19) (.c (.bool true)) (.t 26), none, false, false, [19, 26]⟩])
 (.cond (.t 27)
  (.seq (.ops 4 false [⟨some 6, .mv (.c (.bool false)), none, false, false, []⟩])
  (.ret))
  (.skip)))
 (.seq (.ops 5 false [⟨some 28, .mv (.t 0), none, false, false, []⟩,
  ⟨some 29, .mv (.t 1), none, false, false, []⟩,
  ⟨some 30, .call (.c (.fn 29 [] [])) [.t 28, .t 29], none, false, false, [28, 29]⟩,
  ⟨some 31, .mv (.t 0), none, false, false, []⟩,
  ⟨some 32, .mv (.t 1), none, false, false, []⟩,
  ⟨some 33, .call (.c (.fn 30 [] [])) [.t 31, .t 32], none, false, false, [31, 32]⟩,
  ⟨some 34, .call (.c (.fn 28 [] [])) [.t 30, .t 33], none, false, false, [30, 33]⟩,
  ⟨some 35, .mv (.t 34), none, false, false, [34]⟩,
  ⟨some 36, .mv (.t 0), (some (35, true)), true, false, []⟩,
  ⟨some 37, .mv (.t 1), (some (35, true)), true, false, []⟩,
  ⟨some 38, .mv (.t 2), (some (35, true)), true, false, []⟩,
  ⟨some 39, .call (.c (.fn 32 [] [])) [.o 36, .o 37, .o 38], (some (35, true)), true, false, [36, 37, 38]⟩,
  ⟨some 40, .mv (.t 0), (some (35, true)), true, false, []⟩,
  ⟨some 41, .mv (.t 1), (some (35, true)), true, false, []⟩,
  ⟨some 42, .mv (.t 2), (some (35, true)), true, false, [2]⟩,
  ⟨some 43, .call (.c (.fn 33 [] [])) [.o 40, .o 41, .o 42], (some (35, true)), true, false, [40, 41, 42]⟩,
  ⟨some 44, .call (.c (.fn 31 [] [])) [.o 39, .o 43], (some (35, true)), true, false, [39, 43]⟩,
  ⟨some 45, .pick (.t 35) (.t 44) (.c (.bool false)), none, false, false, [35, 44]⟩,
  ⟨some 46, .mv (.t 45), none, false, false, [45]⟩,
  ⟨some 47, .mv (.t 0), (some (46, true)), true, false, []⟩,
  ⟨some 48, .mv (.t 1), (some (46, true)), true, false, []⟩,
  ⟨some 49, .call (.c (.fn 34 [] [])) [.o 47, .o 48], (some (46, true)), true, false, [47, 48]⟩,
  ⟨some 50, .mv (.t 0), (some (46, true)), true, false, [0]⟩,
  ⟨some 51, .mv (.t 1), (some (46, true)), true, false, [1]⟩,
  ⟨some 52, .call (.c (.fn 35 [] [])) [.o 50, .o 51], (some (46, true)), true, false, [50, 51]⟩,
  ⟨some 53, .call (.c (.fn 31 [] [])) [.o 49, .o 52], (some (46, true)), true, false, [49, 52]⟩,
  ⟨some 54, .pick (.t 46) (.t 53) (.c (.bool false)), none, false, false, [46, 53]⟩,
  ⟨some 55, .mv (.t 54), none, false, false, [54]⟩,
  ⟨some 56, .call (.c (.fn 23 [] [])) [], (some (55, true)), true, false, []⟩,
  ⟨some 57, .pick (.t 55) (.t 56) (.c (.bool false)), none, false, false, [55, 56]⟩,
  ⟨some 6, .mv (.t 57), none, false, false, [57]⟩])
 (.ret))))
def rs_l21_WaitsTells : List IRes := [.t 6]
theorem ok_l21_WaitsTells : fnOk Try.prog 4 ic_l21_WaitsTells rs_l21_WaitsTells 58 = true := by kernel_rfl

end Go.Proofs.Ytnjpfoblmomnlaa.Sx
