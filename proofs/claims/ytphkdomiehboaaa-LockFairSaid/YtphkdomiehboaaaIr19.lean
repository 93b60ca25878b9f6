/- Functions of the seat in the small language. No conditions: a kit of our own. -/
import Derived.Test.YtphkdomiehboaaaProg
import Derived.Test.YtphkdomiehboaaaSx17
namespace Go.Proofs.Ytphkdomiehboaaa.Sx
open Go Go.RowKit
set_option linter.unusedVariables false

/-- (*tallyman/lock.Lock).Ask -/
def ic_lock_Lock_Ask : ICode :=
 .seq (.ops 0 false [⟨some 4, .mv (.c (.int .i64 0)), none, false, false, [4]⟩])
 (.seq (.block 0 (.seq (.ops 1 false [⟨some 6, .mv (.t 0), none, false, false, []⟩,
   ⟨some 7, .eqnil false .p (.t 6), none, false, false, [6]⟩,
   ⟨some 5, .mv (.t 7), none, false, false, [7]⟩])
  (.cond (.t 5)
   (.seq (.ops 2 false [⟨some 4, .mv (.c (.int .i64 9)), none, false, false, []⟩])
   (.ret))
   (.seq (.ops 3 false [⟨some 9, .mv (.t 1), none, false, false, []⟩,
    ⟨some 10, .bin .lss (.t 9) (.c (.int .i64 1)), none, false, false, [9]⟩,
    ⟨some 8, .mv (.t 10), none, false, false, [10]⟩])
   (.cond (.t 8)
    (.seq (.ops 4 false [⟨some 4, .mv (.c (.int .i64 1)), none, false, false, []⟩])
    (.ret))
    (.seq (.ops 5 false [⟨some 12, .mv (.t 1), none, false, false, []⟩,
     ⟨some 13, .mv (.t 0), none, false, false, []⟩,
     ⟨some 14, .nilc (.t 13), none, false, false, [13]⟩,
     ⟨some 15, .fa 2 (.t 14), none, false, false, [14]⟩,
     ⟨some 16, .ld none [] (.t 15), none, false, false, [15]⟩,
     ⟨some 17, .bin .eql (.t 12) (.t 16), none, false, false, [12, 16]⟩,
     ⟨some 11, .mv (.t 17), none, false, false, [17]⟩])
    (.cond (.t 11)
     (.seq (.ops 6 false [⟨some 4, .mv (.c (.int .i64 6)), none, false, false, []⟩])
     (.ret))
     (.skip))))))))
 (.seq (.ops 7 false [⟨some 18, .mv (.t 0), none, false, false, [0]⟩,
  ⟨some 19, .nilc (.t 18), none, false, false, [18]⟩,
  ⟨some 20, .fa 0 (.t 19), none, false, false, [19]⟩,
  ⟨some 21, .ld none [] (.t 20), none, false, false, [20]⟩,
  ⟨some 22, .mv (.t 1), none, false, false, [1]⟩,
  ⟨some 23, .call (.c (.fn 14 [] [])) [.t 21, .t 22], none, false, false, [21, 22]⟩,
  ⟨some 4, .mv (.t 23), none, false, false, [23]⟩])
 (.ret)))
def rs_lock_Lock_Ask : List IRes := [.t 4]
theorem ok_lock_Lock_Ask : fnOk Try.prog 28 ic_lock_Lock_Ask rs_lock_Lock_Ask 24 = true := by kernel_rfl

/-- (*tallyman/lock.Lock).Grant -/
def ic_lock_Lock_Grant : ICode :=
 .seq (.ops 0 false [⟨some 2, .mv (.c (.int .i64 0)), none, false, false, [2]⟩,
  ⟨some 3, .mv (.c (.bool false)), none, false, false, [3]⟩])
 (.seq (.seq (.ops 1 false [⟨some 6, .mv (.t 0), none, false, false, []⟩,
  ⟨some 7, .eqnil false .p (.t 6), none, false, false, [6]⟩,
  ⟨some 8, .mv (.t 7), none, false, false, [7]⟩,
  ⟨some 9, .mv (.t 0), (some (8, false)), true, false, []⟩,
  ⟨some 10, .nilc (.o 9), (some (8, false)), true, false, [9]⟩,
  ⟨some 11, .fa 2 (.o 10), (some (8, false)), true, false, [10]⟩,
  ⟨some 12, .ld none [] (.o 11), (some (8, false)), true, false, [11]⟩,
  ⟨some 13, .bin .gtr (.o 12) (.c (.int .i64 0)), (some (8, false)), true, false, [12]⟩,
  ⟨some 14, .pick (.t 8) (.c (.bool true)) (.t 13), none, false, false, [8, 13]⟩])
 (.cond (.t 14)
  (.seq (.ops 2 false [⟨some 2, .mv (.c (.int .i64 0)), none, false, false, []⟩,
   ⟨some 3, .mv (.c (.bool false)), none, false, false, []⟩])
  (.ret))
  (.skip)))
 (.seq (.ops 3 false [⟨some 16, .mv (.t 0), none, false, false, []⟩,
  ⟨some 17, .nilc (.t 16), none, false, false, [16]⟩,
  ⟨some 18, .fa 0 (.t 17), none, false, false, [17]⟩,
  ⟨some 19, .ld none [] (.t 18), none, false, false, [18]⟩,
  ⟨some 20, .call (.c (.fn 16 [] [])) [.t 19], none, false, false, [19]⟩,
  ⟨some 15, .mv (.t 20), none, false, false, [20]⟩,
  ⟨some 21, .ext 0 (.t 15), none, false, false, []⟩,
  ⟨some 22, .ext 1 (.t 15), none, false, false, [15]⟩,
  ⟨some 4, .mv (.t 21), none, false, false, [21]⟩,
  ⟨some 5, .mv (.t 22), none, false, false, [22]⟩])
 (.seq (.ops 4 false [⟨some 23, .mv (.t 0), none, false, false, [0]⟩,
  ⟨some 24, .mv (.t 4), none, false, false, []⟩,
  ⟨some 25, .nilc (.t 23), none, false, false, [23]⟩,
  ⟨some 26, .fa 2 (.t 25), none, false, false, [25]⟩,
  ⟨none, .st 1 (.t 26) (.t 24), none, false, false, [24, 26]⟩])
 (.seq (.ops 5 false [⟨some 27, .mv (.t 4), none, false, false, [4]⟩,
  ⟨some 28, .mv (.t 5), none, false, false, [5]⟩,
  ⟨some 2, .mv (.t 27), none, false, false, [27]⟩,
  ⟨some 3, .mv (.t 28), none, false, false, [28]⟩])
 (.ret)))))
def rs_lock_Lock_Grant : List IRes := [.t 2, .t 3]
theorem ok_lock_Lock_Grant : fnOk Try.prog 30 ic_lock_Lock_Grant rs_lock_Lock_Grant 29 = true := by kernel_rfl

/-- (*tallyman/lock.Lock).Head -/
def ic_lock_Lock_Head : ICode :=
 .seq (.ops 0 false [⟨some 2, .mv (.c (.int .i64 0)), none, false, false, [2]⟩,
  ⟨some 3, .mv (.c (.bool false)), none, false, false, [3]⟩])
 (.seq (.seq (.ops 1 false [⟨some 4, .mv (.t 0), none, false, false, []⟩,
  ⟨some 5, .eqnil false .p (.t 4), none, false, false, [4]⟩])
 (.cond (.t 5)
  (.seq (.ops 2 false [⟨some 2, .mv (.c (.int .i64 0)), none, false, false, []⟩,
   ⟨some 3, .mv (.c (.bool false)), none, false, false, []⟩])
  (.ret))
  (.skip)))
 (.seq (.ops 3 false [⟨some 6, .mv (.t 0), none, false, false, [0]⟩,
  ⟨some 7, .nilc (.t 6), none, false, false, [6]⟩,
  ⟨some 8, .fa 0 (.t 7), none, false, false, [7]⟩,
  ⟨some 9, .ld none [] (.t 8), none, false, false, [8]⟩,
  ⟨some 10, .call (.c (.fn 19 [] [])) [.t 9], none, false, false, [9]⟩,
  ⟨some 11, .ext 0 (.t 10), none, false, false, []⟩,
  ⟨some 12, .ext 1 (.t 10), none, false, false, [10]⟩,
  ⟨some 2, .mv (.t 11), none, false, false, [11]⟩,
  ⟨some 3, .mv (.t 12), none, false, false, [12]⟩])
 (.ret)))
def rs_lock_Lock_Head : List IRes := [.t 2, .t 3]
theorem ok_lock_Lock_Head : fnOk Try.prog 34 ic_lock_Lock_Head rs_lock_Lock_Head 13 = true := by kernel_rfl

/-- (*tallyman/lock.Lock).Leave -/
def ic_lock_Lock_Leave : ICode :=
 .seq (.ops 0 false [⟨some 4, .mv (.c (.int .i64 0)), none, false, false, [4]⟩])
 (.seq (.block 0 (.seq (.ops 1 false [⟨some 6, .mv (.t 0), none, false, false, []⟩,
   ⟨some 7, .eqnil false .p (.t 6), none, false, false, [6]⟩,
   ⟨some 8, .mv (.t 7), none, false, false, [7]⟩,
   ⟨some 9, .mv (.t 1), (some (8, false)), true, false, []⟩,
   ⟨some 10, .bin .lss (.o 9) (.c (.int .i64 1)), (some (8, false)), true, false, [9]⟩,
   ⟨some 11, .pick (.t 8) (.c (.bool true)) (.t 10), none, false, false, [8, 10]⟩,
   ⟨some 5, .mv (.t 11), none, false, false, [11]⟩])
  (.cond (.t 5)
   (.seq (.ops 2 false [⟨some 4, .mv (.c (.int .i64 0)), none, false, false, []⟩])
   (.ret))
   (.seq (.ops 3 false [⟨some 13, .mv (.t 1), none, false, false, []⟩,
    ⟨some 14, .mv (.t 0), none, false, false, []⟩,
    ⟨some 15, .nilc (.t 14), none, false, false, [14]⟩,
    ⟨some 16, .fa 2 (.t 15), none, false, false, [15]⟩,
    ⟨some 17, .ld none [] (.t 16), none, false, false, [16]⟩,
    ⟨some 18, .bin .eql (.t 13) (.t 17), none, false, false, [13, 17]⟩,
    ⟨some 12, .mv (.t 18), none, false, false, [18]⟩])
   (.cond (.t 12)
    (.seq (.ops 4 false [⟨some 19, .mv (.t 0), none, false, false, [0]⟩,
     ⟨some 20, .nilc (.t 19), none, false, false, [19]⟩,
     ⟨some 21, .fa 2 (.t 20), none, false, false, [20]⟩,
     ⟨none, .st 1 (.t 21) (.c (.int .i64 0)), none, false, false, [21]⟩])
    (.seq (.ops 5 false [⟨some 4, .mv (.c (.int .i64 2)), none, false, false, []⟩])
    (.ret)))
    (.seq (.ops 6 false [⟨some 23, .mv (.t 0), none, false, false, [0]⟩,
     ⟨some 24, .nilc (.t 23), none, false, false, [23]⟩,
     ⟨some 25, .fa 0 (.t 24), none, false, false, [24]⟩,
     ⟨some 26, .ld none [] (.t 25), none, false, false, [25]⟩,
     ⟨some 27, .mv (.t 1), none, false, false, [1]⟩,
     ⟨some 28, .call (.c (.fn 17 [] [])) [.t 26, .t 27], none, false, false, [26, 27]⟩,
     ⟨some 22, .mv (.t 28), none, false, false, [28]⟩])
    (.cond (.t 22)
     (.seq (.ops 7 false [⟨some 4, .mv (.c (.int .i64 1)), none, false, false, []⟩])
     (.ret))
     (.skip))))))))
 (.seq (.ops 8 false [⟨some 4, .mv (.c (.int .i64 0)), none, false, false, []⟩])
 (.ret)))
def rs_lock_Lock_Leave : List IRes := [.t 4]
theorem ok_lock_Lock_Leave : fnOk Try.prog 32 ic_lock_Lock_Leave rs_lock_Lock_Leave 29 = true := by kernel_rfl

/-- (*tallyman/lock.Lock).View -/
def ic_lock_Lock_View : ICode :=
 .seq (.ops 0 false [⟨some 2, .alloc [.int .i64 0, .int .i64 0, .nils], none, false, false, []⟩])
 (.seq (.seq (.ops 1 false [⟨some 3, .mv (.t 0), none, false, false, []⟩,
  ⟨some 4, .eqnil false .p (.t 3), none, false, false, [3]⟩])
 (.cond (.t 4)
  (.seq (.ops 2 false [⟨some 5, .build [.int .i64 0, .int .i64 0, .nils] [], none, false, false, []⟩,
   ⟨none, .st 3 (.t 2) (.t 5), none, false, false, [5]⟩])
  (.ret))
  (.skip)))
 (.seq (.ops 3 true [⟨some 6, .mv (.t 0), none, false, false, []⟩,
  ⟨some 7, .nilc (.t 6), none, false, false, [6]⟩,
  ⟨some 8, .fa 1 (.t 7), none, false, false, [7]⟩,
  ⟨some 9, .ld none [] (.t 8), none, false, false, [8]⟩,
  ⟨some 10, .mv (.t 0), none, false, false, []⟩,
  ⟨some 11, .nilc (.t 10), none, false, false, [10]⟩,
  ⟨some 12, .fa 2 (.t 11), none, false, false, [11]⟩,
  ⟨some 13, .ld none [] (.t 12), none, false, false, [12]⟩,
  ⟨some 14, .mv (.t 0), none, false, false, [0]⟩,
  ⟨some 15, .nilc (.t 14), none, false, false, [14]⟩,
  ⟨some 16, .fa 0 (.t 15), none, false, false, [15]⟩,
  ⟨some 17, .ld none [] (.t 16), none, false, false, [16]⟩,
  ⟨some 18, .call (.c (.fn 23 [] [])) [.t 17], none, false, false, [17]⟩,
  ⟨some 19, .build [.int .i64 0, .int .i64 0, .nils] [(0, 1, .t 9), (1, 1, .t 13), (2, 1, .t 18)], none, false, false, [9, 13, 18]⟩,
  ⟨none, .st 3 (.t 2) (.t 19), none, false, false, [19]⟩])
 (.ret)))
def rs_lock_Lock_View : List IRes := [.cell 2 (some 3)]
theorem ok_lock_Lock_View : fnOk Try.prog 36 ic_lock_Lock_View rs_lock_Lock_View 20 = true := by kernel_rfl

/-- tallyman/lock.New -/
def ic_lock_New : ICode :=
 .seq (.ops 0 false [⟨some 2, .mv (.c (.nilp)), none, false, false, [2]⟩])
 (.seq (.ops 1 false [⟨some 3, .call (.c (.fn 12 [] [])) [.c (.int .i64 64)], none, false, false, []⟩,
  ⟨some 4, .mv (.t 0), none, false, false, [0]⟩,
  ⟨some 5, .build [.nilp, .int .i64 0, .int .i64 0] [(0, 1, .t 3), (1, 1, .t 4)], none, false, false, [3, 4]⟩,
  ⟨some 6, .box (.t 5), none, false, false, [5]⟩,
  ⟨some 2, .mv (.t 6), none, false, false, [6]⟩])
 (.ret))
def rs_lock_New : List IRes := [.t 2]
theorem ok_lock_New : fnOk Try.prog 27 ic_lock_New rs_lock_New 7 = true := by kernel_rfl

/-- tallyman/tallymanlaw19.LockDoes -/
def ic_l19_LockDoes : ICode :=
 .seq (.ops 0 false [⟨some 4, .mv (.c (.bool false)), none, false, false, [4]⟩])
 (.seq (.seq (.ops 1 false [⟨some 19, .mv (.t 1), none, false, false, []⟩,
  ⟨some 20, .len (.t 19), none, false, false, [19]⟩,
  ⟨some 21, .bin .gtr (.t 20) (.c (.int .i64 200)), none, false, false, [20]⟩])
 (.cond (.t 21)
  (.seq (.ops 2 false [⟨some 22, .call (.c (.fn 26 [] [])) [], none, false, false, []⟩,
   ⟨some 4, .mv (.t 22), none, false, false, [22]⟩])
  (.ret))
  (.skip)))
 (.seq (.ops 3 false [⟨some 23, .mv (.t 0), none, false, false, []⟩,
  ⟨some 24, .call (.c (.fn 27 [] [])) [.t 23], none, false, false, [23]⟩,
  ⟨some 25, .mv (.t 0), none, false, false, [0]⟩,
  ⟨some 26, .build [.int .i64 0, .int .i64 0, .nils] [(0, 1, .t 25)], none, false, false, [25]⟩,
  ⟨some 6, .alloc [.int .i64 0, .int .i64 0, .nils], none, false, false, []⟩,
  ⟨some 5, .mv (.t 24), none, false, false, [24]⟩,
  ⟨none, .st 3 (.t 6) (.t 26), none, false, false, [26]⟩])
 (.seq (.seq (.ops 4 false [⟨some 27, .mv (.t 1), none, false, false, [1]⟩,
  ⟨some 28, .len (.t 27), none, false, false, []⟩,
  ⟨some 29, .mv (.c (.int .i64 0)), none, false, false, []⟩])
 (.block 0 (.loop [5, 6, 27, 28, 29] (.seq (.ops 5 false [⟨some 30, .bin .lss (.t 29) (.t 28), none, false, false, []⟩])
   (.seq (.cond (.t 30)
    (.skip)
    (.exit 0))
   (.seq (.block 1 (.seq (.ops 6 false [⟨some 31, .ia 2 [.int .i64 0, .int .i64 0] (.t 27) (.t 29), none, false, false, []⟩,
     ⟨some 32, .ld (some 2) [.int .i64 0, .int .i64 0] (.t 31), none, false, false, [31]⟩,
     ⟨some 8, .alloc [.int .i64 0, .int .i64 0], none, false, false, []⟩,
     ⟨none, .st 2 (.t 8) (.t 32), none, false, false, [32]⟩])
    (.seq (.seq (.ops 7 false [⟨some 33, .fa 0 (.t 8), none, false, false, []⟩,
     ⟨some 34, .ld none [] (.t 33), none, false, false, [33]⟩])
    (.block 2 (.seq (.ops 8 false [⟨some 36, .bin .eql (.t 34) (.c (.int .i64 1)), none, false, false, []⟩,
      ⟨some 35, .mv (.t 36), none, false, false, [36]⟩])
     (.join [5, 6, 27, 28, 29] (.cond (.t 35)
      (.seq (.ops 9 false [⟨some 37, .mv (.t 5), none, false, false, []⟩,
       ⟨some 38, .fa 1 (.t 8), none, false, false, []⟩,
       ⟨some 39, .ld none [] (.t 38), none, false, false, [38]⟩,
       ⟨some 40, .call (.c (.fn 28 [] [])) [.t 37, .t 39], none, false, false, [37, 39]⟩,
       ⟨some 9, .mv (.t 40), none, false, false, [40]⟩,
       ⟨some 10, .mv (.c (.int .i64 0)), none, false, false, [10]⟩])
      (.seq (.ops 10 false [⟨some 42, .ld (some 3) [] (.t 6), none, false, false, []⟩,
       ⟨some 43, .fa 1 (.t 8), none, false, false, [8]⟩,
       ⟨some 44, .ld none [] (.t 43), none, false, false, [43]⟩,
       ⟨some 45, .call (.c (.fn 29 [] [])) [.t 42, .t 44], none, false, false, [42, 44]⟩,
       ⟨some 41, .mv (.t 45), none, false, false, [45]⟩,
       ⟨some 46, .ext 0 (.t 41), none, false, false, []⟩,
       ⟨some 47, .ext 1 (.t 41), none, false, false, [41]⟩,
       ⟨none, .st 3 (.t 6) (.t 46), none, false, false, [46]⟩,
       ⟨some 10, .mv (.t 47), none, false, false, [47]⟩])
      (.seq (.ops 11 false [⟨some 48, .mv (.t 9), none, false, false, [9]⟩,
       ⟨some 49, .mv (.t 10), none, false, false, [10]⟩,
       ⟨some 50, .bin .neq (.t 48) (.t 49), none, false, false, [48, 49]⟩])
      (.cond (.t 50)
       (.seq (.ops 12 false [⟨some 4, .mv (.c (.bool false)), none, false, false, []⟩])
       (.ret))
       (.skip)))))
      (.seq (.ops 13 false [⟨some 52, .bin .eql (.t 34) (.c (.int .i64 2)), none, false, false, []⟩,
       ⟨some 51, .mv (.t 52), none, false, false, [52]⟩])
      (.cond (.t 51)
       (.seq (.ops 14 false [⟨some 54, .mv (.t 5), none, false, false, []⟩,
        ⟨some 55, .call (.c (.fn 30 [] [])) [.t 54], none, false, false, [54]⟩,
        ⟨some 53, .mv (.t 55), none, false, false, [55]⟩,
        ⟨some 56, .ext 0 (.t 53), none, false, false, []⟩,
        ⟨some 57, .ext 1 (.t 53), none, false, false, [53]⟩,
        ⟨some 11, .mv (.t 56), none, false, false, [56]⟩,
        ⟨some 12, .mv (.t 57), none, false, false, [57]⟩])
       (.seq (.ops 15 false [⟨some 13, .mv (.c (.int .i64 0)), none, false, false, [13]⟩,
        ⟨some 14, .mv (.c (.bool false)), none, false, false, [14]⟩])
       (.seq (.ops 16 false [⟨some 59, .ld (some 3) [] (.t 6), none, false, false, []⟩,
        ⟨some 60, .call (.c (.fn 31 [] [])) [.t 59], none, false, false, [59]⟩,
        ⟨some 58, .mv (.t 60), none, false, false, [60]⟩,
        ⟨some 61, .ext 0 (.t 58), none, false, false, []⟩,
        ⟨some 62, .ext 1 (.t 58), none, false, false, []⟩,
        ⟨some 63, .ext 2 (.t 58), none, false, false, [58]⟩,
        ⟨none, .st 3 (.t 6) (.t 61), none, false, false, [61]⟩,
        ⟨some 13, .mv (.t 62), none, false, false, [62]⟩,
        ⟨some 14, .mv (.t 63), none, false, false, [63]⟩])
       (.seq (.ops 17 false [⟨some 64, .mv (.t 11), none, false, false, [11]⟩,
        ⟨some 65, .mv (.t 13), none, false, false, [13]⟩,
        ⟨some 66, .bin .neq (.t 64) (.t 65), none, false, false, [64, 65]⟩,
        ⟨some 67, .mv (.t 66), none, false, false, [66]⟩,
        ⟨some 68, .mv (.t 12), (some (67, false)), true, false, [12]⟩,
        ⟨some 69, .mv (.t 14), (some (67, false)), true, false, [14]⟩,
        ⟨some 70, .eqb true (.o 68) (.o 69), (some (67, false)), true, false, [68, 69]⟩,
        ⟨some 71, .pick (.t 67) (.c (.bool true)) (.t 70), none, false, false, [67, 70]⟩])
       (.cond (.t 71)
        (.seq (.ops 18 false [⟨some 4, .mv (.c (.bool false)), none, false, false, []⟩])
        (.ret))
        (.skip))))))
       (.seq (.ops 19 false [⟨some 73, .bin .eql (.t 34) (.c (.int .i64 3)), none, false, false, [34]⟩,
        ⟨some 72, .mv (.t 73), none, false, false, [73]⟩])
       (.cond (.t 72)
        (.seq (.ops 20 false [⟨some 74, .mv (.t 5), none, false, false, []⟩,
         ⟨some 75, .fa 1 (.t 8), none, false, false, []⟩,
         ⟨some 76, .ld none [] (.t 75), none, false, false, [75]⟩,
         ⟨some 77, .call (.c (.fn 32 [] [])) [.t 74, .t 76], none, false, false, [74, 76]⟩,
         ⟨some 15, .mv (.t 77), none, false, false, [77]⟩,
         ⟨some 16, .mv (.c (.int .i64 0)), none, false, false, [16]⟩])
        (.seq (.ops 21 false [⟨some 79, .ld (some 3) [] (.t 6), none, false, false, []⟩,
         ⟨some 80, .fa 1 (.t 8), none, false, false, [8]⟩,
         ⟨some 81, .ld none [] (.t 80), none, false, false, [80]⟩,
         ⟨some 82, .call (.c (.fn 33 [] [])) [.t 79, .t 81], none, false, false, [79, 81]⟩,
         ⟨some 78, .mv (.t 82), none, false, false, [82]⟩,
         ⟨some 83, .ext 0 (.t 78), none, false, false, []⟩,
         ⟨some 84, .ext 1 (.t 78), none, false, false, [78]⟩,
         ⟨none, .st 3 (.t 6) (.t 83), none, false, false, [83]⟩,
         ⟨some 16, .mv (.t 84), none, false, false, [84]⟩])
        (.seq (.ops 22 false [⟨some 85, .mv (.t 15), none, false, false, [15]⟩,
         ⟨some 86, .mv (.t 16), none, false, false, [16]⟩,
         ⟨some 87, .bin .neq (.t 85) (.t 86), none, false, false, [85, 86]⟩])
        (.cond (.t 87)
         (.seq (.ops 23 false [⟨some 4, .mv (.c (.bool false)), none, false, false, []⟩])
         (.ret))
         (.skip)))))
        (.skip))))))))))
    (.seq (.ops 24 false [⟨some 89, .mv (.t 5), none, false, false, []⟩,
     ⟨some 90, .call (.c (.fn 34 [] [])) [.t 89], none, false, false, [89]⟩,
     ⟨some 88, .mv (.t 90), none, false, false, [90]⟩,
     ⟨some 91, .ext 0 (.t 88), none, false, false, []⟩,
     ⟨some 92, .ext 1 (.t 88), none, false, false, [88]⟩,
     ⟨some 17, .mv (.t 91), none, false, false, [91]⟩,
     ⟨some 18, .mv (.t 92), none, false, false, [92]⟩])
    (.seq (.ops 25 true [⟨some 93, .mv (.t 5), none, false, false, []⟩,
     ⟨some 94, .call (.c (.fn 36 [] [])) [.t 93], none, false, false, [93]⟩,
     ⟨some 95, .ld (some 3) [] (.t 6), none, false, false, []⟩,
     ⟨some 96, .call (.c (.fn 35 [] [])) [.t 94, .t 95], none, false, false, [94, 95]⟩,
     ⟨some 97, .not (.t 96), none, false, false, [96]⟩,
     ⟨some 98, .mv (.t 97), none, false, false, [97]⟩,
     ⟨some 99, .mv (.t 18), (some (98, false)), true, false, []⟩,
     ⟨some 100, .fa 2 (.t 6), (some (98, false)), true, false, []⟩,
     ⟨some 101, .ld none [] (.o 100), (some (98, false)), true, false, [100]⟩,
     ⟨some 102, .len (.o 101), (some (98, false)), true, false, [101]⟩,
     ⟨some 103, .bin .gtr (.o 102) (.c (.int .i64 0)), (some (98, false)), true, false, [102]⟩,
     ⟨some 104, .eqb true (.o 99) (.o 103), (some (98, false)), true, false, [99, 103]⟩,
     ⟨some 105, .pick (.t 98) (.c (.bool true)) (.t 104), none, false, false, [98, 104]⟩,
     ⟨some 106, .mv (.t 105), none, false, false, [105]⟩,
     ⟨some 107, .mv (.t 18), (some (106, false)), true, false, []⟩,
     ⟨some 108, .mv (.o 107), (some (106, false)), true, false, [107]⟩,
     ⟨some 109, .mv (.t 17), (some (108, true)), true, false, []⟩,
     ⟨some 110, .fa 2 (.t 6), (some (108, true)), true, false, []⟩,
     ⟨some 111, .ld none [] (.o 110), (some (108, true)), true, false, [110]⟩,
     ⟨some 112, .ia 1 [.int .i64 0] (.o 111) (.c (.int .i64 0)), (some (108, true)), true, false, [111]⟩,
     ⟨some 113, .ld none [.int .i64 0] (.o 112), (some (108, true)), true, false, [112]⟩,
     ⟨some 114, .bin .neq (.o 109) (.o 113), (some (108, true)), true, false, [109, 113]⟩,
     ⟨some 115, .pick (.o 108) (.t 114) (.c (.bool false)), (some (106, false)), true, false, [108, 114]⟩,
     ⟨some 116, .pick (.t 106) (.c (.bool true)) (.t 115), none, false, false, [106, 115]⟩,
     ⟨some 117, .mv (.t 116), none, false, false, [116]⟩,
     ⟨some 118, .mv (.t 18), (some (117, false)), true, false, [18]⟩,
     ⟨some 119, .not (.o 118), (some (117, false)), true, false, [118]⟩,
     ⟨some 120, .mv (.o 119), (some (117, false)), true, false, [119]⟩,
     ⟨some 121, .mv (.t 17), (some (120, true)), true, false, [17]⟩,
     ⟨some 122, .bin .neq (.o 121) (.c (.int .i64 0)), (some (120, true)), true, false, [121]⟩,
     ⟨some 123, .pick (.o 120) (.t 122) (.c (.bool false)), (some (117, false)), true, false, [120, 122]⟩,
     ⟨some 124, .pick (.t 117) (.c (.bool true)) (.t 123), none, false, false, [117, 123]⟩])
    (.cond (.t 124)
     (.seq (.ops 26 false [⟨some 4, .mv (.c (.bool false)), none, false, false, []⟩])
     (.ret))
     (.skip)))))))
   (.ops 27 false [⟨some 125, .bin .add (.t 29) (.c (.int .i64 1)), none, false, false, [29]⟩,
    ⟨some 29, .mv (.t 125), none, false, false, [125]⟩])))))))
 (.seq (.ops 28 false [⟨some 126, .call (.c (.fn 26 [] [])) [], none, false, false, []⟩,
  ⟨some 4, .mv (.t 126), none, false, false, [126]⟩])
 (.ret)))))
def rs_l19_LockDoes : List IRes := [.t 4]
theorem ok_l19_LockDoes : fnOk Try.prog 5 ic_l19_LockDoes rs_l19_LockDoes 127 = true := by kernel_rfl

/-- tallyman/tallymanlaw19.LockFair -/
def ic_l19_LockFair : ICode :=
 .seq (.ops 0 false [⟨some 4, .mv (.c (.bool false)), none, false, false, [4]⟩])
 (.seq (.seq (.ops 1 false [⟨some 22, .mv (.t 0), none, false, false, []⟩,
  ⟨some 23, .len (.t 22), none, false, false, [22]⟩,
  ⟨some 24, .bin .gtr (.t 23) (.c (.int .i64 200)), none, false, false, [23]⟩])
 (.cond (.t 24)
  (.seq (.ops 2 false [⟨some 25, .call (.c (.fn 26 [] [])) [], none, false, false, []⟩,
   ⟨some 4, .mv (.t 25), none, false, false, [25]⟩])
  (.ret))
  (.skip)))
 (.seq (.ops 3 false [⟨some 26, .call (.c (.fn 27 [] [])) [.c (.int .i64 1)], none, false, false, []⟩,
  ⟨some 5, .mv (.t 26), none, false, false, [26]⟩])
 (.seq (.ops 4 false [⟨some 27, .mv (.t 1), none, false, false, [1]⟩,
  ⟨some 28, .cvi .i64 (.t 27), none, false, false, [27]⟩,
  ⟨some 29, .bin .add (.c (.int .i64 1)) (.t 28), none, false, false, [28]⟩,
  ⟨some 6, .mv (.t 29), none, false, false, [29]⟩])
 (.seq (.ops 5 false [⟨some 7, .mv (.c (.nils)), none, false, false, []⟩])
 (.seq (.seq (.ops 6 false [⟨some 30, .mv (.t 0), none, false, false, [0]⟩,
  ⟨some 31, .len (.t 30), none, false, false, []⟩,
  ⟨some 32, .mv (.c (.int .i64 0)), none, false, false, []⟩])
 (.block 0 (.loop [5, 6, 7, 30, 31, 32] (.seq (.ops 7 false [⟨some 33, .bin .lss (.t 32) (.t 31), none, false, false, []⟩])
   (.seq (.cond (.t 33)
    (.skip)
    (.exit 0))
   (.seq (.block 1 (.seq (.ops 8 false [⟨some 34, .ia 2 [.int .i64 0, .int .i64 0] (.t 30) (.t 32), none, false, false, []⟩,
     ⟨some 35, .ld (some 2) [.int .i64 0, .int .i64 0] (.t 34), none, false, false, [34]⟩,
     ⟨some 9, .alloc [.int .i64 0, .int .i64 0], none, false, false, []⟩,
     ⟨none, .st 2 (.t 9) (.t 35), none, false, false, [35]⟩])
    (.seq (.ops 9 false [⟨some 36, .fa 0 (.t 9), none, false, false, []⟩,
     ⟨some 37, .ld none [] (.t 36), none, false, false, [36]⟩,
     ⟨some 38, .bin .eql (.t 37) (.c (.int .i64 2)), none, false, false, [37]⟩])
    (.cond (.t 38)
     (.ops 10 false [⟨some 39, .mv (.t 5), none, false, false, []⟩,
      ⟨some 40, .call (.c (.fn 30 [] [])) [.t 39], none, false, false, [39, 40]⟩])
     (.seq (.ops 11 false [⟨some 41, .fa 0 (.t 9), none, false, false, []⟩,
      ⟨some 42, .ld none [] (.t 41), none, false, false, [41]⟩,
      ⟨some 43, .bin .eql (.t 42) (.c (.int .i64 1)), none, false, false, [42]⟩,
      ⟨some 44, .mv (.t 43), none, false, false, [43]⟩,
      ⟨some 45, .fa 1 (.t 9), (some (44, true)), true, false, []⟩,
      ⟨some 46, .ld none [] (.o 45), (some (44, true)), true, false, [45]⟩,
      ⟨some 47, .mv (.t 6), (some (44, true)), true, false, []⟩,
      ⟨some 48, .bin .neq (.o 46) (.o 47), (some (44, true)), true, false, [46, 47]⟩,
      ⟨some 49, .pick (.t 44) (.t 48) (.c (.bool false)), none, false, false, [44, 48]⟩])
     (.cond (.t 49)
      (.ops 12 false [⟨some 50, .mv (.t 5), none, false, false, []⟩,
       ⟨some 51, .fa 1 (.t 9), none, false, false, [9]⟩,
       ⟨some 52, .ld none [] (.t 51), none, false, false, [51]⟩,
       ⟨some 53, .call (.c (.fn 28 [] [])) [.t 50, .t 52], none, false, false, [50, 52, 53]⟩])
      (.ops 13 false [⟨some 54, .mv (.t 5), none, false, false, []⟩,
       ⟨some 55, .fa 1 (.t 9), none, false, false, [9]⟩,
       ⟨some 56, .ld none [] (.t 55), none, false, false, [55]⟩,
       ⟨some 57, .call (.c (.fn 32 [] [])) [.t 54, .t 56], none, false, false, [54, 56, 57]⟩])))))))
   (.ops 14 false [⟨some 58, .bin .add (.t 32) (.c (.int .i64 1)), none, false, false, [32]⟩,
    ⟨some 32, .mv (.t 58), none, false, false, [58]⟩])))))))
 (.seq (.ops 15 false [⟨some 59, .mv (.t 5), none, false, false, []⟩,
  ⟨some 60, .mv (.t 6), none, false, false, []⟩,
  ⟨some 61, .call (.c (.fn 32 [] [])) [.t 59, .t 60], none, false, false, [59, 60, 61]⟩])
 (.seq (.ops 16 false [⟨some 62, .mv (.t 7), none, false, false, [7]⟩,
  ⟨some 63, .mv (.t 5), none, false, false, []⟩,
  ⟨some 64, .call (.c (.fn 36 [] [])) [.t 63], none, false, false, [63]⟩,
  ⟨some 65, .fld none 2 (.t 64), none, false, false, [64]⟩,
  ⟨some 66, .app 1 (.t 62) (.t 65), none, false, false, [62, 65]⟩,
  ⟨some 7, .mv (.t 66), none, false, false, [66]⟩])
 (.seq (.seq (.ops 17 false [⟨some 67, .mv (.t 5), none, false, false, []⟩,
  ⟨some 68, .mv (.t 6), none, false, false, []⟩,
  ⟨some 69, .call (.c (.fn 28 [] [])) [.t 67, .t 68], none, false, false, [67, 68]⟩,
  ⟨some 70, .bin .neq (.t 69) (.c (.int .i64 0)), none, false, false, [69]⟩])
 (.cond (.t 70)
  (.seq (.ops 18 false [⟨some 71, .mv (.t 7), none, false, false, [7]⟩,
   ⟨some 72, .len (.t 71), none, false, false, [71]⟩,
   ⟨some 73, .bin .eql (.t 72) (.c (.int .i64 64)), none, false, false, [72]⟩,
   ⟨some 74, .mv (.t 73), none, false, false, [73]⟩,
   ⟨some 75, .call (.c (.fn 26 [] [])) [], (some (74, true)), true, false, []⟩,
   ⟨some 76, .pick (.t 74) (.t 75) (.c (.bool false)), none, false, false, [74, 75]⟩,
   ⟨some 4, .mv (.t 76), none, false, false, [76]⟩])
  (.ret))
  (.skip)))
 (.seq (.seq (.ops 19 false [⟨some 77, .mv (.t 7), none, false, false, [7]⟩,
  ⟨some 78, .mv (.t 6), none, false, false, [6]⟩,
  ⟨some 79, .rowView 1 [.t 78], none, false, false, [78]⟩,
  ⟨some 80, .app 1 (.t 77) (.t 79), none, false, false, [77, 79]⟩,
  ⟨some 81, .len (.t 80), none, false, false, []⟩,
  ⟨some 82, .mv (.c (.int .i64 0)), none, false, false, []⟩])
 (.block 2 (.loop [5, 80, 81, 82] (.seq (.ops 20 false [⟨some 83, .bin .lss (.t 82) (.t 81), none, false, false, []⟩])
   (.seq (.cond (.t 83)
    (.skip)
    (.exit 2))
   (.seq (.block 3 (.seq (.ops 21 false [⟨some 84, .ia 1 [.int .i64 0] (.t 80) (.t 82), none, false, false, []⟩,
     ⟨some 85, .ld none [.int .i64 0] (.t 84), none, false, false, [84]⟩,
     ⟨some 11, .mv (.t 85), none, false, false, [85]⟩])
    (.seq (.ops 22 false [⟨some 86, .mv (.t 5), none, false, false, []⟩,
     ⟨some 87, .call (.c (.fn 36 [] [])) [.t 86], none, false, false, [86]⟩,
     ⟨some 12, .alloc [.int .i64 0, .int .i64 0, .nils], none, false, false, []⟩,
     ⟨none, .st 3 (.t 12) (.t 87), none, false, false, [87]⟩])
    (.seq (.seq (.ops 23 false [⟨some 88, .fa 2 (.t 12), none, false, false, []⟩,
     ⟨some 89, .ld none [] (.t 88), none, false, false, [88]⟩,
     ⟨some 90, .len (.t 89), none, false, false, []⟩,
     ⟨some 91, .mv (.c (.int .i64 0)), none, false, false, []⟩])
    (.block 4 (.loop [5, 11, 12, 80, 81, 82, 89, 90, 91] (.seq (.ops 24 false [⟨some 92, .bin .lss (.t 91) (.t 90), none, false, false, []⟩])
      (.seq (.cond (.t 92)
       (.skip)
       (.exit 4))
      (.seq (.block 5 (.seq (.ops 25 false [⟨some 93, .ia 1 [.int .i64 0] (.t 89) (.t 91), none, false, false, []⟩,
        ⟨some 94, .ld none [.int .i64 0] (.t 93), none, false, false, [93]⟩,
        ⟨some 14, .mv (.t 94), none, false, false, [94]⟩])
       (.seq (.ops 26 false [⟨some 95, .mv (.t 14), none, false, false, [14]⟩,
        ⟨some 96, .fa 1 (.t 12), none, false, false, []⟩,
        ⟨some 97, .ld none [] (.t 96), none, false, false, [96]⟩,
        ⟨some 98, .bin .eql (.t 95) (.t 97), none, false, false, [95, 97]⟩])
       (.cond (.t 98)
        (.seq (.ops 27 false [⟨some 4, .mv (.c (.bool false)), none, false, false, []⟩])
        (.ret))
        (.skip)))))
      (.ops 28 false [⟨some 99, .bin .add (.t 91) (.c (.int .i64 1)), none, false, false, [91]⟩,
       ⟨some 91, .mv (.t 99), none, false, false, [99]⟩])))))))
    (.seq (.seq (.ops 29 false [⟨some 100, .fa 1 (.t 12), none, false, false, []⟩,
     ⟨some 101, .ld none [] (.t 100), none, false, false, [100]⟩,
     ⟨some 102, .bin .gtr (.t 101) (.c (.int .i64 0)), none, false, false, [101]⟩,
     ⟨some 103, .mv (.t 102), none, false, false, [102]⟩,
     ⟨some 104, .mv (.t 5), (some (103, true)), true, false, []⟩,
     ⟨some 105, .fa 1 (.t 12), (some (103, true)), true, false, [12]⟩,
     ⟨some 106, .ld none [] (.o 105), (some (103, true)), true, false, [105]⟩,
     ⟨some 107, .call (.c (.fn 32 [] [])) [.o 104, .o 106], (some (103, true)), false, false, [104, 106]⟩,
     ⟨some 108, .bin .neq (.o 107) (.c (.int .i64 2)), (some (103, true)), true, false, [107]⟩,
     ⟨some 109, .pick (.t 103) (.t 108) (.c (.bool false)), none, false, false, [103, 108]⟩])
    (.cond (.t 109)
     (.seq (.ops 30 false [⟨some 4, .mv (.c (.bool false)), none, false, false, []⟩])
     (.ret))
     (.skip)))
    (.seq (.ops 31 false [⟨some 111, .mv (.t 5), none, false, false, []⟩,
     ⟨some 112, .call (.c (.fn 30 [] [])) [.t 111], none, false, false, [111]⟩,
     ⟨some 110, .mv (.t 112), none, false, false, [112]⟩,
     ⟨some 113, .ext 0 (.t 110), none, false, false, []⟩,
     ⟨some 114, .ext 1 (.t 110), none, false, false, [110]⟩,
     ⟨some 15, .mv (.t 113), none, false, false, [113]⟩,
     ⟨some 16, .mv (.t 114), none, false, false, [114]⟩])
    (.seq (.ops 32 false [⟨some 115, .mv (.t 16), none, false, false, [16]⟩,
     ⟨some 116, .not (.t 115), none, false, false, [115]⟩,
     ⟨some 117, .mv (.t 116), none, false, false, [116]⟩,
     ⟨some 118, .mv (.t 15), (some (117, false)), true, false, [15]⟩,
     ⟨some 119, .mv (.t 11), (some (117, false)), true, false, [11]⟩,
     ⟨some 120, .bin .neq (.o 118) (.o 119), (some (117, false)), true, false, [118, 119]⟩,
     ⟨some 121, .pick (.t 117) (.c (.bool true)) (.t 120), none, false, false, [117, 120]⟩])
    (.cond (.t 121)
     (.seq (.ops 33 false [⟨some 4, .mv (.c (.bool false)), none, false, false, []⟩])
     (.ret))
     (.skip)))))))))
   (.ops 34 false [⟨some 122, .bin .add (.t 82) (.c (.int .i64 1)), none, false, false, [82]⟩,
    ⟨some 82, .mv (.t 122), none, false, false, [122]⟩])))))))
 (.seq (.ops 35 false [⟨some 17, .mv (.c (.nilp)), none, false, false, []⟩])
 (.seq (.ops 36 false [⟨some 124, .mv (.t 17), none, false, false, []⟩,
  ⟨some 125, .call (.c (.fn 30 [] [])) [.t 124], none, false, false, [124]⟩,
  ⟨some 123, .mv (.t 125), none, false, false, [125]⟩,
  ⟨some 126, .ext 0 (.t 123), none, false, false, []⟩,
  ⟨some 127, .ext 1 (.t 123), none, false, false, [123]⟩,
  ⟨some 18, .mv (.t 126), none, false, false, [18, 126]⟩,
  ⟨some 19, .mv (.t 127), none, false, false, [127]⟩])
 (.seq (.ops 37 false [⟨some 129, .mv (.t 17), none, false, false, []⟩,
  ⟨some 130, .call (.c (.fn 34 [] [])) [.t 129], none, false, false, [129]⟩,
  ⟨some 128, .mv (.t 130), none, false, false, [130]⟩,
  ⟨some 131, .ext 0 (.t 128), none, false, false, []⟩,
  ⟨some 132, .ext 1 (.t 128), none, false, false, [128]⟩,
  ⟨some 20, .mv (.t 131), none, false, false, [20, 131]⟩,
  ⟨some 21, .mv (.t 132), none, false, false, [132]⟩])
 (.seq (.ops 38 false [⟨some 133, .mv (.t 5), none, false, false, [5]⟩,
  ⟨some 134, .call (.c (.fn 36 [] [])) [.t 133], none, false, false, [133]⟩,
  ⟨some 135, .fld none 2 (.t 134), none, false, false, [134]⟩,
  ⟨some 136, .len (.t 135), none, false, false, [135]⟩,
  ⟨some 137, .bin .eql (.t 136) (.c (.int .i64 0)), none, false, false, [136]⟩,
  ⟨some 138, .mv (.t 137), none, false, false, [137]⟩,
  ⟨some 139, .mv (.t 17), (some (138, true)), true, false, []⟩,
  ⟨some 140, .call (.c (.fn 28 [] [])) [.o 139, .c (.int .i64 1)], (some (138, true)), true, false, [139]⟩,
  ⟨some 141, .bin .eql (.o 140) (.c (.int .i64 9)), (some (138, true)), true, false, [140]⟩,
  ⟨some 142, .pick (.t 138) (.t 141) (.c (.bool false)), none, false, false, [138, 141]⟩,
  ⟨some 143, .mv (.t 142), none, false, false, [142]⟩,
  ⟨some 144, .mv (.t 19), (some (143, true)), true, false, [19]⟩,
  ⟨some 145, .not (.o 144), (some (143, true)), true, false, [144]⟩,
  ⟨some 146, .pick (.t 143) (.t 145) (.c (.bool false)), none, false, false, [143, 145]⟩,
  ⟨some 147, .mv (.t 146), none, false, false, [146]⟩,
  ⟨some 148, .mv (.t 21), (some (147, true)), true, false, [21]⟩,
  ⟨some 149, .not (.o 148), (some (147, true)), true, false, [148]⟩,
  ⟨some 150, .pick (.t 147) (.t 149) (.c (.bool false)), none, false, false, [147, 149]⟩,
  ⟨some 151, .mv (.t 150), none, false, false, [150]⟩,
  ⟨some 152, .mv (.t 17), (some (151, true)), true, false, []⟩,
  ⟨some 153, .call (.c (.fn 32 [] [])) [.o 152, .c (.int .i64 1)], (some (151, true)), true, false, [152]⟩,
  ⟨some 154, .bin .eql (.o 153) (.c (.int .i64 0)), (some (151, true)), true, false, [153]⟩,
  ⟨some 155, .pick (.t 151) (.t 154) (.c (.bool false)), none, false, false, [151, 154]⟩,
  ⟨some 156, .mv (.t 155), none, false, false, [155]⟩,
  ⟨some 157, .mv (.t 17), (some (156, true)), true, false, [17]⟩,
  ⟨some 158, .call (.c (.fn 36 [] [])) [.o 157], (some (156, true)), true, false, [157]⟩,
  ⟨some 159, .fld none 1 (.o 158), (some (156, true)), true, false, [158]⟩,
  ⟨some 160, .bin .eql (.o 159) (.c (.int .i64 0)), (some (156, true)), true, false, [159]⟩,
  ⟨some 161, .pick (.t 156) (.t 160) (.c (.bool false)), none, false, false, [156, 160]⟩,
  ⟨some 162, .mv (.t 161), none, false, false, [161]⟩,
  ⟨some 163, .call (.c (.fn 26 [] [])) [], (some (162, true)), true, false, []⟩,
  ⟨some 164, .pick (.t 162) (.t 163) (.c (.bool false)), none, false, false, [162, 163]⟩,
  ⟨some 4, .mv (.t 164), none, false, false, [164]⟩])
 (.ret))))))))))))))
def rs_l19_LockFair : List IRes := [.t 4]
theorem ok_l19_LockFair : fnOk Try.prog 6 ic_l19_LockFair rs_l19_LockFair 165 = true := by kernel_rfl

/-- tallyman/tallymanlaw19.alive -/
def ic_l19_alive : ICode :=
 .seq (.ops 0 false [⟨some 0, .mv (.c (.bool false)), none, false, false, [0]⟩])
 (.seq (.ops 1 false [⟨some 8, .call (.c (.fn 27 [] [])) [.c (.int .i64 3)], none, false, false, []⟩,
  ⟨some 1, .mv (.t 8), none, false, false, [8]⟩])
 (.seq (.ops 2 false [⟨some 9, .mv (.t 1), none, false, false, []⟩,
  ⟨some 10, .call (.c (.fn 28 [] [])) [.t 9, .c (.int .i64 5)], none, false, false, [9]⟩,
  ⟨some 11, .mv (.t 1), none, false, false, []⟩,
  ⟨some 12, .call (.c (.fn 28 [] [])) [.t 11, .c (.int .i64 7)], none, false, false, [11]⟩,
  ⟨some 2, .mv (.t 10), none, false, false, [10]⟩,
  ⟨some 3, .mv (.t 12), none, false, false, [12]⟩])
 (.seq (.ops 3 false [⟨some 14, .mv (.t 1), none, false, false, []⟩,
  ⟨some 15, .call (.c (.fn 30 [] [])) [.t 14], none, false, false, [14]⟩,
  ⟨some 13, .mv (.t 15), none, false, false, [15]⟩,
  ⟨some 16, .ext 0 (.t 13), none, false, false, []⟩,
  ⟨some 17, .ext 1 (.t 13), none, false, false, [13]⟩,
  ⟨some 4, .mv (.t 16), none, false, false, [16]⟩,
  ⟨some 5, .mv (.t 17), none, false, false, [17]⟩])
 (.seq (.ops 4 false [⟨some 19, .mv (.t 1), none, false, false, []⟩,
  ⟨some 20, .call (.c (.fn 30 [] [])) [.t 19], none, false, false, [19]⟩,
  ⟨some 18, .mv (.t 20), none, false, false, [20]⟩,
  ⟨some 21, .ext 0 (.t 18), none, false, false, []⟩,
  ⟨some 22, .ext 1 (.t 18), none, false, false, [18]⟩,
  ⟨some 6, .mv (.t 21), none, false, false, [6, 21]⟩,
  ⟨some 7, .mv (.t 22), none, false, false, [22]⟩])
 (.seq (.ops 5 false [⟨some 23, .mv (.t 2), none, false, false, [2]⟩,
  ⟨some 24, .bin .eql (.t 23) (.c (.int .i64 0)), none, false, false, [23]⟩,
  ⟨some 25, .mv (.t 24), none, false, false, [24]⟩,
  ⟨some 26, .mv (.t 3), (some (25, true)), true, false, [3]⟩,
  ⟨some 27, .bin .eql (.o 26) (.c (.int .i64 0)), (some (25, true)), true, false, [26]⟩,
  ⟨some 28, .pick (.t 25) (.t 27) (.c (.bool false)), none, false, false, [25, 27]⟩,
  ⟨some 29, .mv (.t 28), none, false, false, [28]⟩,
  ⟨some 30, .mv (.t 4), (some (29, true)), true, false, [4]⟩,
  ⟨some 31, .bin .eql (.o 30) (.c (.int .i64 5)), (some (29, true)), true, false, [30]⟩,
  ⟨some 32, .pick (.t 29) (.t 31) (.c (.bool false)), none, false, false, [29, 31]⟩,
  ⟨some 33, .mv (.t 32), none, false, false, [32]⟩,
  ⟨some 34, .mv (.t 5), (some (33, true)), true, false, [5]⟩,
  ⟨some 35, .pick (.t 33) (.t 34) (.c (.bool false)), none, false, false, [33, 34]⟩,
  ⟨some 36, .mv (.t 35), none, false, false, [35]⟩,
  ⟨some 37, .mv (.t 7), (some (36, true)), true, false, [7]⟩,
  ⟨some 38, .not (.o 37), (some (36, true)), true, false, [37]⟩,
  ⟨some 39, .pick (.t 36) (.t 38) (.c (.bool false)), none, false, false, [36, 38]⟩,
  ⟨some 40, .mv (.t 39), none, false, false, [39]⟩,
  ⟨some 41, .mv (.t 1), (some (40, true)), true, false, []⟩,
  ⟨some 42, .call (.c (.fn 32 [] [])) [.o 41, .c (.int .i64 5)], (some (40, true)), false, false, [41]⟩,
  ⟨some 43, .bin .eql (.o 42) (.c (.int .i64 2)), (some (40, true)), true, false, [42]⟩,
  ⟨some 44, .pick (.t 40) (.t 43) (.c (.bool false)), none, false, false, [40, 43]⟩,
  ⟨some 45, .mv (.t 44), none, false, false, [44]⟩,
  ⟨some 46, .mv (.t 1), (some (45, true)), true, false, []⟩,
  ⟨some 47, .call (.c (.fn 32 [] [])) [.o 46, .c (.int .i64 5)], (some (45, true)), false, false, [46]⟩,
  ⟨some 48, .bin .eql (.o 47) (.c (.int .i64 0)), (some (45, true)), true, false, [47]⟩,
  ⟨some 49, .pick (.t 45) (.t 48) (.c (.bool false)), none, false, false, [45, 48]⟩,
  ⟨some 50, .mv (.t 49), none, false, false, [49]⟩,
  ⟨some 51, .mv (.t 1), (some (50, true)), true, false, []⟩,
  ⟨some 52, .call (.c (.fn 32 [] [])) [.o 51, .c (.int .i64 7)], (some (50, true)), false, false, [51]⟩,
  ⟨some 53, .bin .eql (.o 52) (.c (.int .i64 1)), (some (50, true)), true, false, [52]⟩,
  ⟨some 54, .pick (.t 50) (.t 53) (.c (.bool false)), none, false, false, [50, 53]⟩,
  ⟨some 55, .mv (.t 54), none, false, false, [54]⟩,
  ⟨some 56, .mv (.t 1), (some (55, true)), true, false, [1]⟩,
  ⟨some 57, .call (.c (.fn 36 [] [])) [.o 56], (some (55, true)), true, false, [56]⟩,
  ⟨some 58, .fld none 0 (.o 57), (some (55, true)), true, false, [57]⟩,
  ⟨some 59, .bin .eql (.o 58) (.c (.int .i64 3)), (some (55, true)), true, false, [58]⟩,
  ⟨some 60, .pick (.t 55) (.t 59) (.c (.bool false)), none, false, false, [55, 59]⟩,
  ⟨some 0, .mv (.t 60), none, false, false, [60]⟩])
 (.ret))))))
def rs_l19_alive : List IRes := [.t 0]
theorem ok_l19_alive : fnOk Try.prog 26 ic_l19_alive rs_l19_alive 61 = true := by kernel_rfl

/-- tallyman/tallymanref19.Ask -/
def ic_r19_Ask : ICode :=
 .seq (.ops 0 false [⟨some 2, .box (.t 0), none, false, false, [0]⟩,
  ⟨some 4, .alloc [.int .i64 0, .int .i64 0, .nils], none, false, false, []⟩,
  ⟨some 5, .mv (.c (.int .i64 0)), none, false, false, [5]⟩])
 (.seq (.seq (.ops 1 false [⟨some 6, .mv (.t 1), none, false, false, []⟩,
  ⟨some 7, .bin .lss (.t 6) (.c (.int .i64 1)), none, false, false, [6]⟩])
 (.cond (.t 7)
  (.seq (.ops 2 false [⟨some 8, .ld (some 3) [] (.t 2), none, false, false, [2]⟩,
   ⟨none, .st 3 (.t 4) (.t 8), none, false, false, [8]⟩,
   ⟨some 5, .mv (.c (.int .i64 1)), none, false, false, []⟩])
  (.ret))
  (.skip)))
 (.seq (.seq (.ops 3 false [⟨some 9, .fa 1 (.t 2), none, false, false, []⟩,
  ⟨some 10, .ld none [] (.t 9), none, false, false, [9]⟩,
  ⟨some 11, .mv (.t 1), none, false, false, []⟩,
  ⟨some 12, .bin .eql (.t 10) (.t 11), none, false, false, [10, 11]⟩,
  ⟨some 13, .mv (.t 12), none, false, false, [12]⟩,
  ⟨some 14, .fa 2 (.t 2), (some (13, false)), true, false, []⟩,
  ⟨some 15, .ld none [] (.o 14), (some (13, false)), true, false, [14]⟩,
  ⟨some 16, .mv (.t 1), (some (13, false)), true, false, []⟩,
  ⟨some 17, .call (.c (.fn 61 [] [])) [.o 15, .o 16], (some (13, false)), true, false, [15, 16]⟩,
  ⟨some 18, .pick (.t 13) (.c (.bool true)) (.t 17), none, false, false, [13, 17]⟩])
 (.cond (.t 18)
  (.seq (.ops 4 false [⟨some 19, .ld (some 3) [] (.t 2), none, false, false, [2]⟩,
   ⟨none, .st 3 (.t 4) (.t 19), none, false, false, [19]⟩,
   ⟨some 5, .mv (.c (.int .i64 6)), none, false, false, []⟩])
  (.ret))
  (.skip)))
 (.seq (.seq (.ops 5 false [⟨some 20, .fa 2 (.t 2), none, false, false, []⟩,
  ⟨some 21, .ld none [] (.t 20), none, false, false, [20]⟩,
  ⟨some 22, .len (.t 21), none, false, false, [21]⟩,
  ⟨some 23, .bin .geq (.t 22) (.c (.int .i64 64)), none, false, false, [22]⟩])
 (.cond (.t 23)
  (.seq (.ops 6 false [⟨some 24, .ld (some 3) [] (.t 2), none, false, false, [2]⟩,
   ⟨none, .st 3 (.t 4) (.t 24), none, false, false, [24]⟩,
   ⟨some 5, .mv (.c (.int .i64 9)), none, false, false, []⟩])
  (.ret))
  (.skip)))
 (.seq (.ops 7 false [⟨some 25, .rowOwn 1 [], none, false, false, []⟩,
  ⟨some 26, .fa 2 (.t 2), none, false, false, []⟩,
  ⟨some 27, .ld none [] (.t 26), none, false, false, [26]⟩,
  ⟨some 28, .app 1 (.t 25) (.t 27), none, false, false, [25, 27]⟩,
  ⟨some 29, .mv (.t 1), none, false, false, [1]⟩,
  ⟨some 30, .rowView 1 [.t 29], none, false, false, [29]⟩,
  ⟨some 31, .app 1 (.t 28) (.t 30), none, false, false, [28, 30]⟩,
  ⟨some 32, .fa 2 (.t 2), none, false, false, []⟩,
  ⟨none, .st 1 (.t 32) (.t 31), none, false, false, [31, 32]⟩])
 (.seq (.ops 8 false [⟨some 33, .ld (some 3) [] (.t 2), none, false, false, [2]⟩,
  ⟨none, .st 3 (.t 4) (.t 33), none, false, false, [33]⟩,
  ⟨some 5, .mv (.c (.int .i64 0)), none, false, false, []⟩])
 (.ret))))))
def rs_r19_Ask : List IRes := [.cell 4 (some 3), .t 5]
theorem ok_r19_Ask : fnOk Try.prog 29 ic_r19_Ask rs_r19_Ask 34 = true := by kernel_rfl

/-- tallyman/tallymanref19.Grant -/
def ic_r19_Grant : ICode :=
 .seq (.ops 0 false [⟨some 1, .box (.t 0), none, false, false, [0]⟩,
  ⟨some 2, .alloc [.int .i64 0, .int .i64 0, .nils], none, false, false, []⟩,
  ⟨some 3, .mv (.c (.int .i64 0)), none, false, false, [3]⟩,
  ⟨some 4, .mv (.c (.bool false)), none, false, false, [4]⟩])
 (.seq (.seq (.ops 1 false [⟨some 5, .fa 1 (.t 1), none, false, false, []⟩,
  ⟨some 6, .ld none [] (.t 5), none, false, false, [5]⟩,
  ⟨some 7, .bin .neq (.t 6) (.c (.int .i64 0)), none, false, false, [6]⟩,
  ⟨some 8, .mv (.t 7), none, false, false, [7]⟩,
  ⟨some 9, .fa 2 (.t 1), (some (8, false)), true, false, []⟩,
  ⟨some 10, .ld none [] (.o 9), (some (8, false)), true, false, [9]⟩,
  ⟨some 11, .len (.o 10), (some (8, false)), true, false, [10]⟩,
  ⟨some 12, .bin .eql (.o 11) (.c (.int .i64 0)), (some (8, false)), true, false, [11]⟩,
  ⟨some 13, .pick (.t 8) (.c (.bool true)) (.t 12), none, false, false, [8, 12]⟩])
 (.cond (.t 13)
  (.seq (.ops 2 false [⟨some 14, .ld (some 3) [] (.t 1), none, false, false, [1]⟩,
   ⟨none, .st 3 (.t 2) (.t 14), none, false, false, [14]⟩,
   ⟨some 3, .mv (.c (.int .i64 0)), none, false, false, []⟩,
   ⟨some 4, .mv (.c (.bool false)), none, false, false, []⟩])
  (.ret))
  (.skip)))
 (.seq (.ops 3 false [⟨some 15, .fa 2 (.t 1), none, false, false, []⟩,
  ⟨some 16, .ld none [] (.t 15), none, false, false, [15]⟩,
  ⟨some 17, .ia 1 [.int .i64 0] (.t 16) (.c (.int .i64 0)), none, false, false, [16]⟩,
  ⟨some 18, .ld none [.int .i64 0] (.t 17), none, false, false, [17]⟩,
  ⟨some 19, .fa 1 (.t 1), none, false, false, []⟩,
  ⟨none, .st 1 (.t 19) (.t 18), none, false, false, [18, 19]⟩])
 (.seq (.ops 4 false [⟨some 20, .fa 2 (.t 1), none, false, false, []⟩,
  ⟨some 21, .ld none [] (.t 20), none, false, false, [20]⟩,
  ⟨some 22, .slc 1 (.t 21) (some (.c (.int .i64 1))) none, none, false, false, [21]⟩,
  ⟨some 23, .fa 2 (.t 1), none, false, false, []⟩,
  ⟨none, .st 1 (.t 23) (.t 22), none, false, false, [22, 23]⟩])
 (.seq (.ops 5 true [⟨some 24, .ld (some 3) [] (.t 1), none, false, false, []⟩,
  ⟨some 25, .fa 1 (.t 1), none, false, true, [1]⟩,
  ⟨some 26, .ld none [] (.t 25), none, false, true, [25]⟩,
  ⟨none, .st 3 (.t 2) (.t 24), none, false, false, [24]⟩,
  ⟨some 3, .mv (.t 26), none, false, false, [26]⟩,
  ⟨some 4, .mv (.c (.bool true)), none, false, false, []⟩])
 (.ret)))))
def rs_r19_Grant : List IRes := [.cell 2 (some 3), .t 3, .t 4]
theorem ok_r19_Grant : fnOk Try.prog 31 ic_r19_Grant rs_r19_Grant 27 = true := by kernel_rfl

/-- tallyman/tallymanref19.Leave -/
def ic_r19_Leave : ICode :=
 .seq (.ops 0 false [⟨some 2, .box (.t 0), none, false, false, [0]⟩,
  ⟨some 4, .alloc [.int .i64 0, .int .i64 0, .nils], none, false, false, []⟩,
  ⟨some 5, .mv (.c (.int .i64 0)), none, false, false, [5]⟩])
 (.seq (.seq (.ops 1 false [⟨some 8, .mv (.t 1), none, false, false, []⟩,
  ⟨some 9, .bin .gtr (.t 8) (.c (.int .i64 0)), none, false, false, [8]⟩,
  ⟨some 10, .mv (.t 9), none, false, false, [9]⟩,
  ⟨some 11, .fa 1 (.t 2), (some (10, true)), true, false, []⟩,
  ⟨some 12, .ld none [] (.o 11), (some (10, true)), true, false, [11]⟩,
  ⟨some 13, .mv (.t 1), (some (10, true)), true, false, []⟩,
  ⟨some 14, .bin .eql (.o 12) (.o 13), (some (10, true)), true, false, [12, 13]⟩,
  ⟨some 15, .pick (.t 10) (.t 14) (.c (.bool false)), none, false, false, [10, 14]⟩])
 (.cond (.t 15)
  (.seq (.ops 2 false [⟨some 16, .fa 1 (.t 2), none, false, false, []⟩,
   ⟨none, .st 1 (.t 16) (.c (.int .i64 0)), none, false, false, [16]⟩])
  (.seq (.ops 3 false [⟨some 17, .ld (some 3) [] (.t 2), none, false, false, [2]⟩,
   ⟨none, .st 3 (.t 4) (.t 17), none, false, false, [17]⟩,
   ⟨some 5, .mv (.c (.int .i64 2)), none, false, false, []⟩])
  (.ret)))
  (.skip)))
 (.seq (.ops 4 false [⟨some 19, .fa 2 (.t 2), none, false, false, []⟩,
  ⟨some 20, .ld none [] (.t 19), none, false, false, [19]⟩,
  ⟨some 21, .mv (.t 1), none, false, false, [1]⟩,
  ⟨some 22, .call (.c (.fn 18 [] [])) [.t 20, .t 21], none, false, false, [20, 21]⟩,
  ⟨some 18, .mv (.t 22), none, false, false, [22]⟩,
  ⟨some 23, .ext 0 (.t 18), none, false, false, []⟩,
  ⟨some 24, .ext 1 (.t 18), none, false, false, [18]⟩,
  ⟨some 6, .mv (.t 23), none, false, false, [23]⟩,
  ⟨some 7, .mv (.t 24), none, false, false, [24]⟩])
 (.seq (.seq (.ops 5 false [⟨some 25, .mv (.t 7), none, false, false, [7]⟩])
 (.cond (.t 25)
  (.seq (.ops 6 false [⟨some 26, .mv (.t 6), none, false, false, [6]⟩,
   ⟨some 27, .fa 2 (.t 2), none, false, false, []⟩,
   ⟨none, .st 1 (.t 27) (.t 26), none, false, false, [26, 27]⟩])
  (.seq (.ops 7 false [⟨some 28, .ld (some 3) [] (.t 2), none, false, false, [2]⟩,
   ⟨none, .st 3 (.t 4) (.t 28), none, false, false, [28]⟩,
   ⟨some 5, .mv (.c (.int .i64 1)), none, false, false, []⟩])
  (.ret)))
  (.skip)))
 (.seq (.ops 8 false [⟨some 29, .ld (some 3) [] (.t 2), none, false, false, [2]⟩,
  ⟨none, .st 3 (.t 4) (.t 29), none, false, false, [29]⟩,
  ⟨some 5, .mv (.c (.int .i64 0)), none, false, false, []⟩])
 (.ret)))))
def rs_r19_Leave : List IRes := [.cell 4 (some 3), .t 5]
theorem ok_r19_Leave : fnOk Try.prog 33 ic_r19_Leave rs_r19_Leave 30 = true := by kernel_rfl

/-- tallyman/tallymanref19.Same -/
def ic_r19_Same : ICode :=
 .seq (.ops 0 false [⟨some 2, .box (.t 0), none, false, false, [0]⟩,
  ⟨some 3, .box (.t 1), none, false, false, [1]⟩,
  ⟨some 4, .mv (.c (.bool false)), none, false, false, [4]⟩])
 (.seq (.ops 1 false [⟨some 5, .fa 0 (.t 2), none, false, false, []⟩,
  ⟨some 6, .ld none [] (.t 5), none, false, false, [5]⟩,
  ⟨some 7, .fa 0 (.t 3), none, false, false, []⟩,
  ⟨some 8, .ld none [] (.t 7), none, false, false, [7]⟩,
  ⟨some 9, .bin .eql (.t 6) (.t 8), none, false, false, [6, 8]⟩,
  ⟨some 10, .mv (.t 9), none, false, false, [9]⟩,
  ⟨some 11, .fa 1 (.t 2), (some (10, true)), true, false, []⟩,
  ⟨some 12, .ld none [] (.o 11), (some (10, true)), true, false, [11]⟩,
  ⟨some 13, .fa 1 (.t 3), (some (10, true)), true, false, []⟩,
  ⟨some 14, .ld none [] (.o 13), (some (10, true)), true, false, [13]⟩,
  ⟨some 15, .bin .eql (.o 12) (.o 14), (some (10, true)), true, false, [12, 14]⟩,
  ⟨some 16, .pick (.t 10) (.t 15) (.c (.bool false)), none, false, false, [10, 15]⟩,
  ⟨some 17, .mv (.t 16), none, false, false, [16]⟩,
  ⟨some 18, .fa 2 (.t 2), (some (17, true)), true, false, [2]⟩,
  ⟨some 19, .ld none [] (.o 18), (some (17, true)), true, false, [18]⟩,
  ⟨some 20, .fa 2 (.t 3), (some (17, true)), true, false, [3]⟩,
  ⟨some 21, .ld none [] (.o 20), (some (17, true)), true, false, [20]⟩,
  ⟨some 22, .call (.c (.fn 22 [] [])) [.o 19, .o 21], (some (17, true)), true, false, [19, 21]⟩,
  ⟨some 23, .pick (.t 17) (.t 22) (.c (.bool false)), none, false, false, [17, 22]⟩,
  ⟨some 4, .mv (.t 23), none, false, false, [23]⟩])
 (.ret))
def rs_r19_Same : List IRes := [.t 4]
theorem ok_r19_Same : fnOk Try.prog 35 ic_r19_Same rs_r19_Same 24 = true := by kernel_rfl

end Go.Proofs.Ytphkdomiehboaaa.Sx
