/- Functions of the seat in the small language. No conditions: a kit of our own. -/
import Derived.Test.YtphkdomiehboaaaProg
import Derived.Test.YtphkdomiehboaaaSx17
namespace Go.Proofs.Ytphkdomiehboaaa.Sx
open Go Go.RowKit
set_option linter.unusedVariables false

/-- (*tallyman/fifo.Queue).At -/
def ic_fifo_Queue_At : ICode :=
 .seq (.ops 0 false [⟨some 4, .mv (.c (.int .i64 0)), none, false, false, [4]⟩])
 (.back [0, 1, 5] (.seq (.seq (.ops 1 false [⟨some 6, .mv (.t 0), none, false, false, []⟩,
   ⟨some 7, .eqnil false .p (.t 6), none, false, false, [6]⟩,
   ⟨some 8, .mv (.t 7), none, false, false, [7]⟩,
   ⟨some 9, .mv (.t 0), (some (8, false)), true, false, []⟩,
   ⟨some 10, .nilc (.o 9), (some (8, false)), true, false, [9]⟩,
   ⟨some 11, .fa 1027 (.o 10), (some (8, false)), true, false, [10]⟩,
   ⟨some 12, .ld none [] (.o 11), (some (8, false)), true, false, [11]⟩,
   ⟨some 13, .mv (.t 1), (some (8, false)), true, false, []⟩,
   ⟨some 14, .look (.int .i64 0) false (.o 12) (.o 13), (some (8, false)), true, false, [12, 13]⟩,
   ⟨some 15, .bin .eql (.o 14) (.c (.int .i64 0)), (some (8, false)), true, false, [14]⟩,
   ⟨some 16, .pick (.t 8) (.c (.bool true)) (.t 15), none, false, false, [8, 15]⟩])
  (.cond (.t 16)
   (.seq (.ops 2 false [⟨some 4, .mv (.c (.int .i64 (-1))), none, false, false, []⟩])
   (.ret))
   (.skip)))
 (.seq (.ops 3 false [⟨some 5, .mv (.c (.int .i64 0)), none, false, false, []⟩])
 (.label 0))) 0
  (.seq (.seq (.ops 4 true [⟨some 17, .mv (.t 0), none, false, false, []⟩,
   ⟨some 18, .mv (.t 0), none, false, false, []⟩,
   ⟨some 19, .mv (.t 5), none, false, false, []⟩,
   ⟨some 20, .call (.c (.fn 69 [] [])) [.t 18, .t 19], none, false, false, [18, 19]⟩,
   ⟨some 21, .nilc (.t 17), none, false, false, [17]⟩,
   ⟨some 22, .fa 0 (.t 21), none, false, false, [21]⟩,
   ⟨some 23, .iaa 1024 1 (.t 22) (.t 20), none, false, false, [20, 22]⟩,
   ⟨some 24, .ld none [] (.t 23), none, false, false, [23]⟩,
   ⟨some 25, .mv (.t 1), none, false, false, []⟩,
   ⟨some 26, .bin .neq (.t 24) (.t 25), none, false, false, [24, 25]⟩])
  (.cond (.t 26)
   (.seq (.ops 5 false [⟨some 27, .mv (.t 5), none, false, false, [5]⟩,
    ⟨some 28, .bin .add (.t 27) (.c (.int .i64 1)), none, false, false, [27]⟩,
    ⟨some 5, .mv (.t 28), none, false, false, [28]⟩])
   (.goto 0))
   (.skip)))
  (.seq (.ops 6 false [⟨some 29, .mv (.t 5), none, false, false, [5]⟩,
   ⟨some 4, .mv (.t 29), none, false, false, [29]⟩])
  (.ret))))
def rs_fifo_Queue_At : List IRes := [.t 4]
theorem ok_fifo_Queue_At : fnOk Try.prog 20 ic_fifo_Queue_At rs_fifo_Queue_At 30 = true := by kernel_rfl

/-- (*tallyman/fifo.Queue).Drop -/
def ic_fifo_Queue_Drop : ICode :=
 .seq (.ops 0 false [⟨some 4, .mv (.c (.bool false)), none, false, false, [4]⟩])
 (.seq (.ops 1 false [⟨some 6, .mv (.t 0), none, false, false, []⟩,
  ⟨some 7, .mv (.t 1), none, false, false, []⟩,
  ⟨some 8, .call (.c (.fn 20 [] [])) [.t 6, .t 7], none, false, false, [6, 7]⟩,
  ⟨some 5, .mv (.t 8), none, false, false, [8]⟩])
 (.seq (.seq (.ops 2 false [⟨some 9, .mv (.t 5), none, false, false, []⟩,
  ⟨some 10, .bin .lss (.t 9) (.c (.int .i64 0)), none, false, false, [9]⟩])
 (.cond (.t 10)
  (.seq (.ops 3 false [⟨some 4, .mv (.c (.bool false)), none, false, false, []⟩])
  (.ret))
  (.skip)))
 (.seq (.block 0 (.loop [0, 1, 5] (.seq (.seq (.ops 4 false [⟨some 11, .mv (.t 5), none, false, false, []⟩,
    ⟨some 12, .bin .add (.t 11) (.c (.int .i64 1)), none, false, false, [11]⟩,
    ⟨some 13, .mv (.t 0), none, false, false, []⟩,
    ⟨some 14, .nilc (.t 13), none, false, false, [13]⟩,
    ⟨some 15, .fa 1025 (.t 14), none, false, false, [14]⟩,
    ⟨some 16, .ld none [] (.t 15), none, false, false, [15]⟩,
    ⟨some 17, .bin .lss (.t 12) (.t 16), none, false, false, [12, 16]⟩])
   (.cond (.t 17)
    (.skip)
    (.exit 0)))
   (.seq (.block 1 (.ops 6 true [⟨some 20, .mv (.t 0), none, false, false, []⟩,
     ⟨some 21, .mv (.t 0), none, false, false, []⟩,
     ⟨some 22, .mv (.t 5), none, false, false, []⟩,
     ⟨some 23, .call (.c (.fn 69 [] [])) [.t 21, .t 22], none, false, false, [21, 22]⟩,
     ⟨some 24, .mv (.t 0), none, false, false, []⟩,
     ⟨some 25, .mv (.t 0), none, false, false, []⟩,
     ⟨some 26, .mv (.t 5), none, false, false, []⟩,
     ⟨some 27, .bin .add (.t 26) (.c (.int .i64 1)), none, false, false, [26]⟩,
     ⟨some 28, .call (.c (.fn 69 [] [])) [.t 25, .t 27], none, false, false, [25, 27]⟩,
     ⟨some 29, .nilc (.t 24), none, false, false, [24]⟩,
     ⟨some 30, .fa 0 (.t 29), none, false, false, [29]⟩,
     ⟨some 31, .iaa 1024 1 (.t 30) (.t 28), none, false, false, [28, 30]⟩,
     ⟨some 32, .ld none [] (.t 31), none, false, false, [31]⟩,
     ⟨some 33, .nilc (.t 20), none, false, false, [20]⟩,
     ⟨some 34, .fa 0 (.t 33), none, false, false, [33]⟩,
     ⟨some 35, .iaa 1024 1 (.t 34) (.t 23), none, false, false, [23, 34]⟩,
     ⟨none, .st 1 (.t 35) (.t 32), none, false, false, [32, 35]⟩]))
   (.ops 5 false [⟨some 18, .mv (.t 5), none, false, false, [5]⟩,
    ⟨some 19, .bin .add (.t 18) (.c (.int .i64 1)), none, false, false, [18]⟩,
    ⟨some 5, .mv (.t 19), none, false, false, [19]⟩])))))
 (.seq (.ops 7 false [⟨some 36, .mv (.t 0), none, false, false, []⟩,
  ⟨some 37, .nilc (.t 36), none, false, false, [36]⟩,
  ⟨some 38, .fa 1027 (.t 37), none, false, false, [37]⟩,
  ⟨some 39, .ld none [] (.t 38), none, false, false, [38]⟩,
  ⟨some 40, .mv (.t 1), none, false, false, [1]⟩,
  ⟨none, .del (.t 39) (.t 40), none, false, false, [39, 40]⟩])
 (.seq (.ops 8 false [⟨some 41, .mv (.t 0), none, false, false, [0]⟩,
  ⟨some 42, .nilc (.t 41), none, false, false, []⟩,
  ⟨some 43, .fa 1025 (.t 42), none, false, false, [42]⟩,
  ⟨some 44, .ld none [] (.t 43), none, false, false, [43]⟩,
  ⟨some 45, .bin .sub (.t 44) (.c (.int .i64 1)), none, false, false, [44]⟩,
  ⟨some 46, .nilc (.t 41), none, false, false, [41]⟩,
  ⟨some 47, .fa 1025 (.t 46), none, false, false, [46]⟩,
  ⟨none, .st 1 (.t 47) (.t 45), none, false, false, [45, 47]⟩])
 (.seq (.ops 9 false [⟨some 4, .mv (.c (.bool true)), none, false, false, []⟩])
 (.ret)))))))
def rs_fifo_Queue_Drop : List IRes := [.t 4]
theorem ok_fifo_Queue_Drop : fnOk Try.prog 17 ic_fifo_Queue_Drop rs_fifo_Queue_Drop 48 = true := by kernel_rfl

/-- (*tallyman/fifo.Queue).First -/
def ic_fifo_Queue_First : ICode :=
 .seq (.ops 0 false [⟨some 2, .mv (.c (.int .i64 0)), none, false, false, [2]⟩,
  ⟨some 3, .mv (.c (.bool false)), none, false, false, [3]⟩])
 (.seq (.seq (.ops 1 false [⟨some 4, .mv (.t 0), none, false, false, []⟩,
  ⟨some 5, .call (.c (.fn 24 [] [])) [.t 4], none, false, false, [4]⟩,
  ⟨some 6, .bin .eql (.t 5) (.c (.int .i64 0)), none, false, false, [5]⟩])
 (.cond (.t 6)
  (.seq (.ops 2 false [⟨some 2, .mv (.c (.int .i64 0)), none, false, false, []⟩,
   ⟨some 3, .mv (.c (.bool false)), none, false, false, []⟩])
  (.ret))
  (.skip)))
 (.seq (.ops 3 true [⟨some 7, .mv (.t 0), none, false, false, []⟩,
  ⟨some 8, .mv (.t 0), none, false, false, [0]⟩,
  ⟨some 9, .nilc (.t 8), none, false, false, [8]⟩,
  ⟨some 10, .fa 1024 (.t 9), none, false, false, [9]⟩,
  ⟨some 11, .ld none [] (.t 10), none, false, false, [10]⟩,
  ⟨some 12, .nilc (.t 7), none, false, false, [7]⟩,
  ⟨some 13, .fa 0 (.t 12), none, false, false, [12]⟩,
  ⟨some 14, .iaa 1024 1 (.t 13) (.t 11), none, false, false, [11, 13]⟩,
  ⟨some 15, .ld none [] (.t 14), none, false, false, [14]⟩,
  ⟨some 2, .mv (.t 15), none, false, false, [15]⟩,
  ⟨some 3, .mv (.c (.bool true)), none, false, false, []⟩])
 (.ret)))
def rs_fifo_Queue_First : List IRes := [.t 2, .t 3]
theorem ok_fifo_Queue_First : fnOk Try.prog 19 ic_fifo_Queue_First rs_fifo_Queue_First 16 = true := by kernel_rfl

/-- (*tallyman/fifo.Queue).Len -/
def ic_fifo_Queue_Len : ICode :=
 .seq (.ops 0 false [⟨some 2, .mv (.c (.int .i64 0)), none, false, false, [2]⟩])
 (.seq (.seq (.ops 1 false [⟨some 3, .mv (.t 0), none, false, false, []⟩,
  ⟨some 4, .eqnil false .p (.t 3), none, false, false, [3]⟩])
 (.cond (.t 4)
  (.seq (.ops 2 false [⟨some 2, .mv (.c (.int .i64 0)), none, false, false, []⟩])
  (.ret))
  (.skip)))
 (.seq (.ops 3 false [⟨some 5, .mv (.t 0), none, false, false, [0]⟩,
  ⟨some 6, .nilc (.t 5), none, false, false, [5]⟩,
  ⟨some 7, .fa 1025 (.t 6), none, false, false, [6]⟩,
  ⟨some 8, .ld none [] (.t 7), none, false, false, [7]⟩,
  ⟨some 2, .mv (.t 8), none, false, false, [8]⟩])
 (.ret)))
def rs_fifo_Queue_Len : List IRes := [.t 2]
theorem ok_fifo_Queue_Len : fnOk Try.prog 24 ic_fifo_Queue_Len rs_fifo_Queue_Len 9 = true := by kernel_rfl

/-- (*tallyman/fifo.Queue).List -/
def ic_fifo_Queue_List : ICode :=
 .seq (.ops 0 false [⟨some 2, .mv (.c (.nils)), none, false, false, [2]⟩])
 (.seq (.ops 1 false [⟨some 3, .mv (.c (.nils)), none, false, false, []⟩])
 (.seq (.seq (.ops 2 false [⟨some 5, .mv (.t 0), none, false, false, []⟩,
  ⟨some 6, .call (.c (.fn 24 [] [])) [.t 5], none, false, false, [5]⟩,
  ⟨some 7, .mv (.c (.int .i64 0)), none, false, false, []⟩])
 (.block 0 (.loop [0, 3, 6, 7] (.seq (.ops 3 false [⟨some 8, .bin .lss (.t 7) (.t 6), none, false, false, []⟩])
   (.seq (.cond (.t 8)
    (.skip)
    (.exit 0))
   (.seq (.block 1 (.seq (.ops 4 false [⟨some 9, .mv (.t 7), none, false, false, []⟩,
     ⟨some 4, .mv (.t 9), none, false, false, [9]⟩])
    (.ops 5 true [⟨some 10, .mv (.t 3), none, false, false, [3]⟩,
     ⟨some 11, .mv (.t 0), none, false, false, []⟩,
     ⟨some 12, .mv (.t 0), none, false, false, []⟩,
     ⟨some 13, .mv (.t 4), none, false, false, [4]⟩,
     ⟨some 14, .call (.c (.fn 69 [] [])) [.t 12, .t 13], none, false, false, [12, 13]⟩,
     ⟨some 15, .nilc (.t 11), none, false, false, [11]⟩,
     ⟨some 16, .fa 0 (.t 15), none, false, false, [15]⟩,
     ⟨some 17, .iaa 1024 1 (.t 16) (.t 14), none, false, false, [14, 16]⟩,
     ⟨some 18, .ld none [] (.t 17), none, false, false, [17]⟩,
     ⟨some 19, .rowView 1 [.t 18], none, false, false, [18]⟩,
     ⟨some 20, .app 1 (.t 10) (.t 19), none, false, false, [10, 19]⟩,
     ⟨some 3, .mv (.t 20), none, false, false, [20]⟩])))
   (.ops 6 false [⟨some 21, .bin .add (.t 7) (.c (.int .i64 1)), none, false, false, [7]⟩,
    ⟨some 7, .mv (.t 21), none, false, false, [21]⟩])))))))
 (.seq (.ops 7 false [⟨some 22, .mv (.t 3), none, false, false, [3]⟩,
  ⟨some 2, .mv (.t 22), none, false, false, [22]⟩])
 (.ret))))
def rs_fifo_Queue_List : List IRes := [.t 2]
theorem ok_fifo_Queue_List : fnOk Try.prog 23 ic_fifo_Queue_List rs_fifo_Queue_List 23 = true := by kernel_rfl

/-- (*tallyman/fifo.Queue).Put -/
def ic_fifo_Queue_Put : ICode :=
 .seq (.ops 0 false [⟨some 4, .mv (.c (.int .i64 0)), none, false, false, [4]⟩])
 (.seq (.seq (.ops 1 false [⟨some 5, .mv (.t 0), none, false, false, []⟩,
  ⟨some 6, .eqnil false .p (.t 5), none, false, false, [5]⟩])
 (.cond (.t 6)
  (.seq (.ops 2 false [⟨some 4, .mv (.c (.int .i64 9)), none, false, false, []⟩])
  (.ret))
  (.skip)))
 (.seq (.seq (.ops 3 false [⟨some 7, .mv (.t 0), none, false, false, []⟩,
  ⟨some 8, .nilc (.t 7), none, false, false, [7]⟩,
  ⟨some 9, .fa 1027 (.t 8), none, false, false, [8]⟩,
  ⟨some 10, .ld none [] (.t 9), none, false, false, [9]⟩,
  ⟨some 11, .mv (.t 1), none, false, false, []⟩,
  ⟨some 12, .look (.int .i64 0) false (.t 10) (.t 11), none, false, false, [10, 11]⟩,
  ⟨some 13, .bin .gtr (.t 12) (.c (.int .i64 0)), none, false, false, [12]⟩])
 (.cond (.t 13)
  (.seq (.ops 4 false [⟨some 4, .mv (.c (.int .i64 6)), none, false, false, []⟩])
  (.ret))
  (.skip)))
 (.seq (.seq (.ops 5 true [⟨some 14, .mv (.t 0), none, false, false, []⟩,
  ⟨some 15, .nilc (.t 14), none, false, false, [14]⟩,
  ⟨some 16, .fa 1025 (.t 15), none, false, false, [15]⟩,
  ⟨some 17, .ld none [] (.t 16), none, false, false, [16]⟩,
  ⟨some 18, .mv (.t 0), none, false, false, []⟩,
  ⟨some 19, .nilc (.t 18), none, false, false, [18]⟩,
  ⟨some 20, .fa 1026 (.t 19), none, false, false, [19]⟩,
  ⟨some 21, .ld none [] (.t 20), none, false, false, [20]⟩,
  ⟨some 22, .bin .eql (.t 17) (.t 21), none, false, false, [17, 21]⟩])
 (.cond (.t 22)
  (.seq (.ops 6 false [⟨some 4, .mv (.c (.int .i64 9)), none, false, false, []⟩])
  (.ret))
  (.skip)))
 (.seq (.ops 7 true [⟨some 23, .mv (.t 0), none, false, false, []⟩,
  ⟨some 24, .mv (.t 0), none, false, false, []⟩,
  ⟨some 25, .mv (.t 0), none, false, false, []⟩,
  ⟨some 26, .nilc (.t 25), none, false, false, [25]⟩,
  ⟨some 27, .fa 1025 (.t 26), none, false, false, [26]⟩,
  ⟨some 28, .ld none [] (.t 27), none, false, false, [27]⟩,
  ⟨some 29, .call (.c (.fn 69 [] [])) [.t 24, .t 28], none, false, false, [24, 28]⟩,
  ⟨some 30, .mv (.t 1), none, false, false, []⟩,
  ⟨some 31, .nilc (.t 23), none, false, false, [23]⟩,
  ⟨some 32, .fa 0 (.t 31), none, false, false, [31]⟩,
  ⟨some 33, .iaa 1024 1 (.t 32) (.t 29), none, false, false, [29, 32]⟩,
  ⟨none, .st 1 (.t 33) (.t 30), none, false, false, [30, 33]⟩])
 (.seq (.ops 8 false [⟨some 34, .mv (.t 0), none, false, false, []⟩,
  ⟨some 35, .nilc (.t 34), none, false, false, [34]⟩,
  ⟨some 36, .fa 1027 (.t 35), none, false, false, [35]⟩,
  ⟨some 37, .ld none [] (.t 36), none, false, false, [36]⟩,
  ⟨some 38, .mv (.t 1), none, false, false, [1]⟩,
  ⟨none, .mapup (.t 37) (.t 38) (.c (.int .i64 1)), none, false, false, [37, 38]⟩])
 (.seq (.ops 9 false [⟨some 39, .mv (.t 0), none, false, false, [0]⟩,
  ⟨some 40, .nilc (.t 39), none, false, false, []⟩,
  ⟨some 41, .fa 1025 (.t 40), none, false, false, [40]⟩,
  ⟨some 42, .ld none [] (.t 41), none, false, false, [41]⟩,
  ⟨some 43, .bin .add (.t 42) (.c (.int .i64 1)), none, false, false, [42]⟩,
  ⟨some 44, .nilc (.t 39), none, false, false, [39]⟩,
  ⟨some 45, .fa 1025 (.t 44), none, false, false, [44]⟩,
  ⟨none, .st 1 (.t 45) (.t 43), none, false, false, [43, 45]⟩])
 (.seq (.ops 10 false [⟨some 4, .mv (.c (.int .i64 0)), none, false, false, []⟩])
 (.ret))))))))
def rs_fifo_Queue_Put : List IRes := [.t 4]
theorem ok_fifo_Queue_Put : fnOk Try.prog 14 ic_fifo_Queue_Put rs_fifo_Queue_Put 46 = true := by kernel_rfl

/-- (*tallyman/fifo.Queue).Room -/
def ic_fifo_Queue_Room : ICode :=
 .seq (.ops 0 false [⟨some 2, .mv (.c (.int .i64 0)), none, false, false, [2]⟩])
 (.seq (.seq (.ops 1 false [⟨some 3, .mv (.t 0), none, false, false, []⟩,
  ⟨some 4, .eqnil false .p (.t 3), none, false, false, [3]⟩])
 (.cond (.t 4)
  (.seq (.ops 2 false [⟨some 2, .mv (.c (.int .i64 0)), none, false, false, []⟩])
  (.ret))
  (.skip)))
 (.seq (.ops 3 false [⟨some 5, .mv (.t 0), none, false, false, [0]⟩,
  ⟨some 6, .nilc (.t 5), none, false, false, [5]⟩,
  ⟨some 7, .fa 1026 (.t 6), none, false, false, [6]⟩,
  ⟨some 8, .ld none [] (.t 7), none, false, false, [7]⟩,
  ⟨some 2, .mv (.t 8), none, false, false, [8]⟩])
 (.ret)))
def rs_fifo_Queue_Room : List IRes := [.t 2]
theorem ok_fifo_Queue_Room : fnOk Try.prog 25 ic_fifo_Queue_Room rs_fifo_Queue_Room 9 = true := by kernel_rfl

/-- (*tallyman/fifo.Queue).Take -/
def ic_fifo_Queue_Take : ICode :=
 .seq (.ops 0 false [⟨some 2, .mv (.c (.int .i64 0)), none, false, false, [2]⟩,
  ⟨some 3, .mv (.c (.bool false)), none, false, false, [3]⟩])
 (.seq (.ops 1 false [⟨some 7, .mv (.t 0), none, false, false, []⟩,
  ⟨some 8, .call (.c (.fn 19 [] [])) [.t 7], none, false, false, [7]⟩,
  ⟨some 6, .mv (.t 8), none, false, false, [8]⟩,
  ⟨some 9, .ext 0 (.t 6), none, false, false, []⟩,
  ⟨some 10, .ext 1 (.t 6), none, false, false, [6]⟩,
  ⟨some 4, .mv (.t 9), none, false, false, [9]⟩,
  ⟨some 5, .mv (.t 10), none, false, false, [10]⟩])
 (.seq (.seq (.ops 2 false [⟨some 11, .mv (.t 5), none, false, false, []⟩])
 (.cond (.t 11)
  (.seq (.ops 3 false [⟨some 12, .mv (.t 0), none, false, false, []⟩,
   ⟨some 13, .nilc (.t 12), none, false, false, [12]⟩,
   ⟨some 14, .fa 1027 (.t 13), none, false, false, [13]⟩,
   ⟨some 15, .ld none [] (.t 14), none, false, false, [14]⟩,
   ⟨some 16, .mv (.t 4), none, false, false, []⟩,
   ⟨none, .del (.t 15) (.t 16), none, false, false, [15, 16]⟩])
  (.seq (.ops 4 false [⟨some 17, .mv (.t 0), none, false, false, []⟩,
   ⟨some 18, .mv (.t 0), none, false, false, []⟩,
   ⟨some 19, .call (.c (.fn 69 [] [])) [.t 18, .c (.int .i64 1)], none, false, false, [18]⟩,
   ⟨some 20, .nilc (.t 17), none, false, false, [17]⟩,
   ⟨some 21, .fa 1024 (.t 20), none, false, false, [20]⟩,
   ⟨none, .st 1 (.t 21) (.t 19), none, false, false, [19, 21]⟩])
  (.ops 5 false [⟨some 22, .mv (.t 0), none, false, false, [0]⟩,
   ⟨some 23, .nilc (.t 22), none, false, false, []⟩,
   ⟨some 24, .fa 1025 (.t 23), none, false, false, [23]⟩,
   ⟨some 25, .ld none [] (.t 24), none, false, false, [24]⟩,
   ⟨some 26, .bin .sub (.t 25) (.c (.int .i64 1)), none, false, false, [25]⟩,
   ⟨some 27, .nilc (.t 22), none, false, false, [22]⟩,
   ⟨some 28, .fa 1025 (.t 27), none, false, false, [27]⟩,
   ⟨none, .st 1 (.t 28) (.t 26), none, false, false, [26, 28]⟩])))
  (.skip)))
 (.seq (.ops 6 false [⟨some 29, .mv (.t 4), none, false, false, [4]⟩,
  ⟨some 30, .mv (.t 5), none, false, false, [5]⟩,
  ⟨some 2, .mv (.t 29), none, false, false, [29]⟩,
  ⟨some 3, .mv (.t 30), none, false, false, [30]⟩])
 (.ret))))
def rs_fifo_Queue_Take : List IRes := [.t 2, .t 3]
theorem ok_fifo_Queue_Take : fnOk Try.prog 16 ic_fifo_Queue_Take rs_fifo_Queue_Take 31 = true := by kernel_rfl

/-- (*tallyman/fifo.Queue).place -/
def ic_fifo_Queue_place : ICode :=
 .seq (.ops 0 false [⟨some 4, .mv (.c (.int .i64 0)), none, false, false, [4]⟩])
 (.seq (.ops 1 false [⟨some 5, .mv (.t 0), none, false, false, [0]⟩,
  ⟨some 6, .nilc (.t 5), none, false, false, [5]⟩,
  ⟨some 7, .fa 1024 (.t 6), none, false, false, [6]⟩,
  ⟨some 8, .ld none [] (.t 7), none, false, false, [7]⟩,
  ⟨some 9, .mv (.t 1), none, false, false, [1]⟩,
  ⟨some 10, .bin .add (.t 8) (.t 9), none, false, false, [8, 9]⟩,
  ⟨some 11, .bin .rem (.t 10) (.c (.int .i64 1024)), none, false, false, [10]⟩,
  ⟨some 4, .mv (.t 11), none, false, false, [11]⟩])
 (.ret))
def rs_fifo_Queue_place : List IRes := [.t 4]
theorem ok_fifo_Queue_place : fnOk Try.prog 69 ic_fifo_Queue_place rs_fifo_Queue_place 12 = true := by kernel_rfl

/-- tallyman/fifo.New -/
def ic_fifo_New : ICode :=
 .seq (.ops 0 false [⟨some 2, .mv (.c (.nilp)), none, false, false, [2]⟩])
 (.seq (.ops 1 false [⟨some 3, .mv (.t 0), none, false, false, [0]⟩,
  ⟨some 4, .mn [.t 3, .c (.int .i64 1024)], none, false, false, [3]⟩,
  ⟨some 5, .mx [.t 4, .c (.int .i64 0)], none, false, false, [4]⟩,
  ⟨some 6, .mkmap, none, false, false, []⟩,
  ⟨some 7, .build (List.replicate 1027 (.int .i64 0) ++ [.nilm]) [(1026, 1, .t 5), (1027, 1, .t 6)], none, false, false, [5, 6]⟩,
  ⟨some 8, .box (.t 7), none, false, false, [7]⟩,
  ⟨some 2, .mv (.t 8), none, false, false, [8]⟩])
 (.ret))
def rs_fifo_New : List IRes := [.t 2]
theorem ok_fifo_New : fnOk Try.prog 12 ic_fifo_New rs_fifo_New 9 = true := by kernel_rfl

/-- tallyman/tallymanlaw18.FifoDoes -/
def ic_l18_FifoDoes : ICode :=
 .seq (.ops 0 false [⟨some 4, .mv (.c (.bool false)), none, false, false, [4]⟩])
 (.seq (.seq (.ops 1 false [⟨some 18, .mv (.t 1), none, false, false, []⟩,
  ⟨some 19, .len (.t 18), none, false, false, [18]⟩,
  ⟨some 20, .bin .gtr (.t 19) (.c (.int .i64 100)), none, false, false, [19]⟩])
 (.cond (.t 20)
  (.seq (.ops 2 false [⟨some 21, .call (.c (.fn 11 [] [])) [], none, false, false, []⟩,
   ⟨some 4, .mv (.t 21), none, false, false, [21]⟩])
  (.ret))
  (.skip)))
 (.seq (.ops 3 false [⟨some 22, .mv (.t 0), none, false, false, []⟩,
  ⟨some 23, .call (.c (.fn 12 [] [])) [.t 22], none, false, false, [22]⟩,
  ⟨some 24, .mv (.t 0), none, false, false, [0]⟩,
  ⟨some 25, .call (.c (.fn 13 [] [])) [.t 24, .c (.int .i64 0), .c (.int .i64 1024)], none, false, false, [24]⟩,
  ⟨some 5, .mv (.t 23), none, false, false, [23]⟩,
  ⟨some 6, .mv (.t 25), none, false, false, [25]⟩])
 (.seq (.ops 4 false [⟨some 7, .mv (.c (.nils)), none, false, false, []⟩])
 (.seq (.seq (.ops 5 false [⟨some 26, .mv (.t 1), none, false, false, [1]⟩,
  ⟨some 27, .len (.t 26), none, false, false, []⟩,
  ⟨some 28, .mv (.c (.int .i64 0)), none, false, false, []⟩])
 (.block 0 (.loop [5, 6, 7, 26, 27, 28] (.seq (.ops 6 false [⟨some 29, .bin .lss (.t 28) (.t 27), none, false, false, []⟩])
   (.seq (.cond (.t 29)
    (.skip)
    (.exit 0))
   (.seq (.block 1 (.seq (.ops 7 false [⟨some 30, .ia 2 [.int .i64 0, .int .i64 0] (.t 26) (.t 28), none, false, false, []⟩,
     ⟨some 31, .ld (some 2) [.int .i64 0, .int .i64 0] (.t 30), none, false, false, [30]⟩,
     ⟨some 9, .alloc [.int .i64 0, .int .i64 0], none, false, false, []⟩,
     ⟨none, .st 2 (.t 9) (.t 31), none, false, false, [31]⟩])
    (.seq (.seq (.ops 8 false [⟨some 32, .fa 0 (.t 9), none, false, false, []⟩,
     ⟨some 33, .ld none [] (.t 32), none, false, false, [32]⟩])
    (.block 2 (.seq (.ops 9 false [⟨some 35, .bin .eql (.t 33) (.c (.int .i64 1)), none, false, false, []⟩,
      ⟨some 34, .mv (.t 35), none, false, false, [35]⟩])
     (.join [5, 6, 7, 9, 26, 27, 28] (.cond (.t 34)
      (.seq (.ops 10 false [⟨some 36, .mv (.t 5), none, false, false, []⟩,
       ⟨some 37, .fa 1 (.t 9), none, false, false, []⟩,
       ⟨some 38, .ld none [] (.t 37), none, false, false, [37]⟩,
       ⟨some 39, .call (.c (.fn 14 [] [])) [.t 36, .t 38], none, false, false, [36, 38]⟩,
       ⟨some 10, .mv (.t 39), none, false, false, [39]⟩,
       ⟨some 11, .mv (.c (.int .i64 0)), none, false, false, [11]⟩])
      (.seq (.ops 11 false [⟨some 41, .mv (.t 7), none, false, false, [7]⟩,
       ⟨some 42, .mv (.t 6), none, false, false, []⟩,
       ⟨some 43, .fa 1 (.t 9), none, false, false, []⟩,
       ⟨some 44, .ld none [] (.t 43), none, false, false, [43]⟩,
       ⟨some 45, .call (.c (.fn 15 [] [])) [.t 41, .t 42, .t 44], none, false, false, [41, 42, 44]⟩,
       ⟨some 40, .mv (.t 45), none, false, false, [45]⟩,
       ⟨some 46, .ext 0 (.t 40), none, false, false, []⟩,
       ⟨some 47, .ext 1 (.t 40), none, false, false, [40]⟩,
       ⟨some 7, .mv (.t 46), none, false, false, [46]⟩,
       ⟨some 11, .mv (.t 47), none, false, false, [47]⟩])
      (.seq (.ops 12 false [⟨some 48, .mv (.t 10), none, false, false, [10]⟩,
       ⟨some 49, .mv (.t 11), none, false, false, [11]⟩,
       ⟨some 50, .bin .neq (.t 48) (.t 49), none, false, false, [48, 49]⟩])
      (.cond (.t 50)
       (.seq (.ops 13 false [⟨some 4, .mv (.c (.bool false)), none, false, false, []⟩])
       (.ret))
       (.skip)))))
      (.seq (.ops 14 false [⟨some 52, .bin .eql (.t 33) (.c (.int .i64 2)), none, false, false, []⟩,
       ⟨some 51, .mv (.t 52), none, false, false, [52]⟩])
      (.cond (.t 51)
       (.seq (.ops 15 false [⟨some 54, .mv (.t 5), none, false, false, []⟩,
        ⟨some 55, .call (.c (.fn 16 [] [])) [.t 54], none, false, false, [54]⟩,
        ⟨some 53, .mv (.t 55), none, false, false, [55]⟩,
        ⟨some 56, .ext 0 (.t 53), none, false, false, []⟩,
        ⟨some 57, .ext 1 (.t 53), none, false, false, [53]⟩,
        ⟨some 12, .mv (.t 56), none, false, false, [56]⟩,
        ⟨some 13, .mv (.t 57), none, false, false, [57]⟩])
       (.seq (.seq (.ops 16 false [⟨some 58, .mv (.t 13), none, false, false, []⟩,
        ⟨some 59, .mv (.t 7), none, false, false, []⟩,
        ⟨some 60, .len (.t 59), none, false, false, [59]⟩,
        ⟨some 61, .bin .gtr (.t 60) (.c (.int .i64 0)), none, false, false, [60]⟩,
        ⟨some 62, .eqb true (.t 58) (.t 61), none, false, false, [58, 61]⟩,
        ⟨some 63, .mv (.t 62), none, false, false, [62]⟩,
        ⟨some 64, .mv (.t 13), (some (63, false)), true, false, []⟩,
        ⟨some 65, .mv (.o 64), (some (63, false)), true, false, [64]⟩,
        ⟨some 66, .mv (.t 12), (some (65, true)), true, false, []⟩,
        ⟨some 67, .mv (.t 7), (some (65, true)), true, false, []⟩,
        ⟨some 68, .ia 1 [.int .i64 0] (.o 67) (.c (.int .i64 0)), (some (65, true)), true, false, [67]⟩,
        ⟨some 69, .ld none [.int .i64 0] (.o 68), (some (65, true)), true, false, [68]⟩,
        ⟨some 70, .bin .neq (.o 66) (.o 69), (some (65, true)), true, false, [66, 69]⟩,
        ⟨some 71, .pick (.o 65) (.t 70) (.c (.bool false)), (some (63, false)), true, false, [65, 70]⟩,
        ⟨some 72, .pick (.t 63) (.c (.bool true)) (.t 71), none, false, false, [63, 71]⟩,
        ⟨some 73, .mv (.t 72), none, false, false, [72]⟩,
        ⟨some 74, .mv (.t 13), (some (73, false)), true, false, []⟩,
        ⟨some 75, .not (.o 74), (some (73, false)), true, false, [74]⟩,
        ⟨some 76, .mv (.o 75), (some (73, false)), true, false, [75]⟩,
        ⟨some 77, .mv (.t 12), (some (76, true)), true, false, [12]⟩,
        ⟨some 78, .bin .neq (.o 77) (.c (.int .i64 0)), (some (76, true)), true, false, [77]⟩,
        ⟨some 79, .pick (.o 76) (.t 78) (.c (.bool false)), (some (73, false)), true, false, [76, 78]⟩,
        ⟨some 80, .pick (.t 73) (.c (.bool true)) (.t 79), none, false, false, [73, 79]⟩])
       (.cond (.t 80)
        (.seq (.ops 17 false [⟨some 4, .mv (.c (.bool false)), none, false, false, []⟩])
        (.ret))
        (.skip)))
       (.seq (.ops 18 false [⟨some 81, .mv (.t 13), none, false, false, [13]⟩])
       (.cond (.t 81)
        (.ops 19 false [⟨some 82, .mv (.t 7), none, false, false, [7]⟩,
         ⟨some 83, .slc 1 (.t 82) (some (.c (.int .i64 1))) none, none, false, false, [82]⟩,
         ⟨some 7, .mv (.t 83), none, false, false, [83]⟩])
        (.skip)))))
       (.seq (.ops 20 false [⟨some 85, .bin .eql (.t 33) (.c (.int .i64 3)), none, false, false, [33]⟩,
        ⟨some 84, .mv (.t 85), none, false, false, [85]⟩])
       (.cond (.t 84)
        (.seq (.ops 21 false [⟨some 86, .mv (.t 5), none, false, false, []⟩,
         ⟨some 87, .fa 1 (.t 9), none, false, false, []⟩,
         ⟨some 88, .ld none [] (.t 87), none, false, false, [87]⟩,
         ⟨some 89, .call (.c (.fn 17 [] [])) [.t 86, .t 88], none, false, false, [86, 88]⟩,
         ⟨some 14, .mv (.t 89), none, false, false, [89]⟩,
         ⟨some 15, .mv (.c (.bool false)), none, false, false, [15]⟩])
        (.seq (.ops 22 false [⟨some 91, .mv (.t 7), none, false, false, [7]⟩,
         ⟨some 92, .fa 1 (.t 9), none, false, false, []⟩,
         ⟨some 93, .ld none [] (.t 92), none, false, false, [92]⟩,
         ⟨some 94, .call (.c (.fn 18 [] [])) [.t 91, .t 93], none, false, false, [91, 93]⟩,
         ⟨some 90, .mv (.t 94), none, false, false, [94]⟩,
         ⟨some 95, .ext 0 (.t 90), none, false, false, []⟩,
         ⟨some 96, .ext 1 (.t 90), none, false, false, [90]⟩,
         ⟨some 7, .mv (.t 95), none, false, false, [95]⟩,
         ⟨some 15, .mv (.t 96), none, false, false, [96]⟩])
        (.seq (.ops 23 false [⟨some 97, .mv (.t 14), none, false, false, [14]⟩,
         ⟨some 98, .mv (.t 15), none, false, false, [15]⟩,
         ⟨some 99, .eqb true (.t 97) (.t 98), none, false, false, [97, 98]⟩])
        (.cond (.t 99)
         (.seq (.ops 24 false [⟨some 4, .mv (.c (.bool false)), none, false, false, []⟩])
         (.ret))
         (.skip)))))
        (.skip))))))))))
    (.seq (.ops 25 false [⟨some 101, .mv (.t 5), none, false, false, []⟩,
     ⟨some 102, .call (.c (.fn 19 [] [])) [.t 101], none, false, false, [101]⟩,
     ⟨some 100, .mv (.t 102), none, false, false, [102]⟩,
     ⟨some 103, .ext 0 (.t 100), none, false, false, []⟩,
     ⟨some 104, .ext 1 (.t 100), none, false, false, [100]⟩,
     ⟨some 16, .mv (.t 103), none, false, false, [103]⟩,
     ⟨some 17, .mv (.t 104), none, false, false, [104]⟩])
    (.seq (.ops 26 true [⟨some 105, .mv (.t 17), none, false, false, []⟩,
     ⟨some 106, .mv (.t 7), none, false, false, []⟩,
     ⟨some 107, .len (.t 106), none, false, false, [106]⟩,
     ⟨some 108, .bin .gtr (.t 107) (.c (.int .i64 0)), none, false, false, [107]⟩,
     ⟨some 109, .eqb true (.t 105) (.t 108), none, false, false, [105, 108]⟩,
     ⟨some 110, .mv (.t 109), none, false, false, [109]⟩,
     ⟨some 111, .mv (.t 17), (some (110, false)), true, false, []⟩,
     ⟨some 112, .mv (.o 111), (some (110, false)), true, false, [111]⟩,
     ⟨some 113, .mv (.t 16), (some (112, true)), true, false, []⟩,
     ⟨some 114, .mv (.t 7), (some (112, true)), true, false, []⟩,
     ⟨some 115, .ia 1 [.int .i64 0] (.o 114) (.c (.int .i64 0)), (some (112, true)), true, false, [114]⟩,
     ⟨some 116, .ld none [.int .i64 0] (.o 115), (some (112, true)), true, false, [115]⟩,
     ⟨some 117, .bin .neq (.o 113) (.o 116), (some (112, true)), true, false, [113, 116]⟩,
     ⟨some 118, .pick (.o 112) (.t 117) (.c (.bool false)), (some (110, false)), true, false, [112, 117]⟩,
     ⟨some 119, .pick (.t 110) (.c (.bool true)) (.t 118), none, false, false, [110, 118]⟩,
     ⟨some 120, .mv (.t 119), none, false, false, [119]⟩,
     ⟨some 121, .mv (.t 17), (some (120, false)), true, false, [17]⟩,
     ⟨some 122, .not (.o 121), (some (120, false)), true, false, [121]⟩,
     ⟨some 123, .mv (.o 122), (some (120, false)), true, false, [122]⟩,
     ⟨some 124, .mv (.t 16), (some (123, true)), true, false, [16]⟩,
     ⟨some 125, .bin .neq (.o 124) (.c (.int .i64 0)), (some (123, true)), true, false, [124]⟩,
     ⟨some 126, .pick (.o 123) (.t 125) (.c (.bool false)), (some (120, false)), true, false, [123, 125]⟩,
     ⟨some 127, .pick (.t 120) (.c (.bool true)) (.t 126), none, false, false, [120, 126]⟩,
     ⟨some 128, .mv (.t 127), none, false, false, [127]⟩,
     ⟨some 129, .mv (.t 5), (some (128, false)), true, false, []⟩,
     ⟨some 130, .fa 1 (.t 9), (some (128, false)), true, false, []⟩,
     ⟨some 131, .ld none [] (.o 130), (some (128, false)), true, false, [130]⟩,
     ⟨some 132, .call (.c (.fn 20 [] [])) [.o 129, .o 131], (some (128, false)), true, false, [129, 131]⟩,
     ⟨some 133, .mv (.t 7), (some (128, false)), true, false, []⟩,
     ⟨some 134, .fa 1 (.t 9), (some (128, false)), true, false, [9]⟩,
     ⟨some 135, .ld none [] (.o 134), (some (128, false)), true, false, [134]⟩,
     ⟨some 136, .call (.c (.fn 21 [] [])) [.o 133, .o 135], (some (128, false)), true, false, [133, 135]⟩,
     ⟨some 137, .bin .neq (.o 132) (.o 136), (some (128, false)), true, false, [132, 136]⟩,
     ⟨some 138, .pick (.t 128) (.c (.bool true)) (.t 137), none, false, false, [128, 137]⟩,
     ⟨some 139, .mv (.t 138), none, false, false, [138]⟩,
     ⟨some 140, .mv (.t 5), (some (139, false)), true, false, []⟩,
     ⟨some 141, .call (.c (.fn 23 [] [])) [.o 140], (some (139, false)), true, false, [140]⟩,
     ⟨some 142, .mv (.t 7), (some (139, false)), true, false, []⟩,
     ⟨some 143, .call (.c (.fn 22 [] [])) [.o 141, .o 142], (some (139, false)), true, false, [141, 142]⟩,
     ⟨some 144, .not (.o 143), (some (139, false)), true, false, [143]⟩,
     ⟨some 145, .pick (.t 139) (.c (.bool true)) (.t 144), none, false, false, [139, 144]⟩,
     ⟨some 146, .mv (.t 145), none, false, false, [145]⟩,
     ⟨some 147, .mv (.t 5), (some (146, false)), true, false, []⟩,
     ⟨some 148, .call (.c (.fn 24 [] [])) [.o 147], (some (146, false)), true, false, [147]⟩,
     ⟨some 149, .mv (.t 7), (some (146, false)), true, false, []⟩,
     ⟨some 150, .len (.o 149), (some (146, false)), true, false, [149]⟩,
     ⟨some 151, .bin .neq (.o 148) (.o 150), (some (146, false)), true, false, [148, 150]⟩,
     ⟨some 152, .pick (.t 146) (.c (.bool true)) (.t 151), none, false, false, [146, 151]⟩,
     ⟨some 153, .mv (.t 152), none, false, false, [152]⟩,
     ⟨some 154, .mv (.t 5), (some (153, false)), true, false, []⟩,
     ⟨some 155, .call (.c (.fn 25 [] [])) [.o 154], (some (153, false)), true, false, [154]⟩,
     ⟨some 156, .mv (.t 6), (some (153, false)), true, false, []⟩,
     ⟨some 157, .bin .neq (.o 155) (.o 156), (some (153, false)), true, false, [155, 156]⟩,
     ⟨some 158, .pick (.t 153) (.c (.bool true)) (.t 157), none, false, false, [153, 157]⟩])
    (.cond (.t 158)
     (.seq (.ops 27 false [⟨some 4, .mv (.c (.bool false)), none, false, false, []⟩])
     (.ret))
     (.skip)))))))
   (.ops 28 false [⟨some 159, .bin .add (.t 28) (.c (.int .i64 1)), none, false, false, [28]⟩,
    ⟨some 28, .mv (.t 159), none, false, false, [159]⟩])))))))
 (.seq (.ops 29 false [⟨some 160, .call (.c (.fn 11 [] [])) [], none, false, false, []⟩,
  ⟨some 4, .mv (.t 160), none, false, false, [160]⟩])
 (.ret))))))
def rs_l18_FifoDoes : List IRes := [.t 4]
theorem ok_l18_FifoDoes : fnOk Try.prog 3 ic_l18_FifoDoes rs_l18_FifoDoes 161 = true := by kernel_rfl

/-- tallyman/tallymanlaw18.FifoFair -/
def ic_l18_FifoFair : ICode :=
 .seq (.ops 0 false [⟨some 4, .mv (.c (.bool false)), none, false, false, [4]⟩])
 (.seq (.seq (.ops 1 false [⟨some 17, .mv (.t 0), none, false, false, []⟩,
  ⟨some 18, .len (.t 17), none, false, false, [17]⟩,
  ⟨some 19, .bin .gtr (.t 18) (.c (.int .i64 100)), none, false, false, [18]⟩])
 (.cond (.t 19)
  (.seq (.ops 2 false [⟨some 20, .call (.c (.fn 11 [] [])) [], none, false, false, []⟩,
   ⟨some 4, .mv (.t 20), none, false, false, [20]⟩])
  (.ret))
  (.skip)))
 (.seq (.ops 3 false [⟨some 21, .call (.c (.fn 12 [] [])) [.c (.int .i64 1000)], none, false, false, []⟩,
  ⟨some 5, .mv (.t 21), none, false, false, [21]⟩])
 (.seq (.ops 4 false [⟨some 22, .mv (.t 5), none, false, false, []⟩,
  ⟨some 23, .mv (.t 1), none, false, false, []⟩,
  ⟨some 24, .call (.c (.fn 14 [] [])) [.t 22, .t 23], none, false, false, [22, 23, 24]⟩])
 (.seq (.ops 5 false [⟨some 25, .mv (.t 5), none, false, false, []⟩,
  ⟨some 26, .mv (.t 1), none, false, false, []⟩,
  ⟨some 27, .call (.c (.fn 20 [] [])) [.t 25, .t 26], none, false, false, [25, 26]⟩,
  ⟨some 6, .mv (.t 27), none, false, false, [27]⟩])
 (.seq (.seq (.ops 6 false [⟨some 28, .mv (.t 0), none, false, false, [0]⟩,
  ⟨some 29, .len (.t 28), none, false, false, []⟩,
  ⟨some 30, .mv (.c (.int .i64 0)), none, false, false, []⟩])
 (.block 0 (.loop [1, 5, 6, 28, 29, 30] (.seq (.ops 7 false [⟨some 31, .bin .lss (.t 30) (.t 29), none, false, false, []⟩])
   (.seq (.cond (.t 31)
    (.skip)
    (.exit 0))
   (.seq (.block 1 (.seq (.ops 8 false [⟨some 32, .ia 2 [.int .i64 0, .int .i64 0] (.t 28) (.t 30), none, false, false, []⟩,
     ⟨some 33, .ld (some 2) [.int .i64 0, .int .i64 0] (.t 32), none, false, false, [32]⟩,
     ⟨some 8, .alloc [.int .i64 0, .int .i64 0], none, false, false, []⟩,
     ⟨none, .st 2 (.t 8) (.t 33), none, false, false, [33]⟩])
    (.seq (.seq (.ops 9 false [⟨some 34, .fa 0 (.t 8), none, false, false, []⟩,
     ⟨some 35, .ld none [] (.t 34), none, false, false, [34]⟩])
    (.block 2 (.seq (.ops 10 false [⟨some 37, .bin .eql (.t 35) (.c (.int .i64 1)), none, false, false, []⟩,
      ⟨some 36, .mv (.t 37), none, false, false, [37]⟩])
     (.join [1, 5, 6, 28, 29, 30] (.cond (.t 36)
      (.ops 11 false [⟨some 38, .mv (.t 5), none, false, false, []⟩,
       ⟨some 39, .fa 1 (.t 8), none, false, false, [8]⟩,
       ⟨some 40, .ld none [] (.t 39), none, false, false, [39]⟩,
       ⟨some 41, .call (.c (.fn 14 [] [])) [.t 38, .t 40], none, false, false, [38, 40, 41]⟩])
      (.seq (.ops 12 false [⟨some 43, .bin .eql (.t 35) (.c (.int .i64 2)), none, false, false, []⟩,
       ⟨some 42, .mv (.t 43), none, false, false, [43]⟩])
      (.cond (.t 42)
       (.seq (.ops 13 false [⟨some 45, .mv (.t 5), none, false, false, []⟩,
        ⟨some 46, .call (.c (.fn 16 [] [])) [.t 45], none, false, false, [45]⟩,
        ⟨some 44, .mv (.t 46), none, false, false, [46]⟩,
        ⟨some 47, .ext 0 (.t 44), none, false, false, []⟩,
        ⟨some 48, .ext 1 (.t 44), none, false, false, [44]⟩,
        ⟨some 9, .mv (.t 47), none, false, false, [47]⟩,
        ⟨some 10, .mv (.t 48), none, false, false, [48]⟩])
       (.seq (.ops 14 false [⟨some 49, .mv (.t 10), none, false, false, [10]⟩,
        ⟨some 50, .mv (.t 49), none, false, false, [49]⟩,
        ⟨some 51, .mv (.t 6), (some (50, true)), true, false, []⟩,
        ⟨some 52, .bin .geq (.o 51) (.c (.int .i64 0)), (some (50, true)), true, false, [51]⟩,
        ⟨some 53, .pick (.t 50) (.t 52) (.c (.bool false)), none, false, false, [50, 52]⟩,
        ⟨some 54, .mv (.t 53), none, false, false, [53]⟩,
        ⟨some 55, .mv (.t 9), (some (54, true)), true, false, [9]⟩,
        ⟨some 56, .mv (.t 1), (some (54, true)), true, false, []⟩,
        ⟨some 57, .bin .eql (.o 55) (.o 56), (some (54, true)), true, false, [55, 56]⟩,
        ⟨some 58, .mv (.t 6), (some (54, true)), true, false, []⟩,
        ⟨some 59, .bin .eql (.o 58) (.c (.int .i64 0)), (some (54, true)), true, false, [58]⟩,
        ⟨some 60, .eqb true (.o 57) (.o 59), (some (54, true)), true, false, [57, 59]⟩,
        ⟨some 61, .pick (.t 54) (.t 60) (.c (.bool false)), none, false, false, [54, 60]⟩])
       (.cond (.t 61)
        (.seq (.ops 15 false [⟨some 4, .mv (.c (.bool false)), none, false, false, []⟩])
        (.ret))
        (.skip))))
       (.seq (.ops 16 false [⟨some 63, .bin .eql (.t 35) (.c (.int .i64 3)), none, false, false, [35]⟩,
        ⟨some 62, .mv (.t 63), none, false, false, [63]⟩])
       (.cond (.t 62)
        (.ops 17 false [⟨some 64, .mv (.t 5), none, false, false, []⟩,
         ⟨some 65, .fa 1 (.t 8), none, false, false, [8]⟩,
         ⟨some 66, .ld none [] (.t 65), none, false, false, [65]⟩,
         ⟨some 67, .call (.c (.fn 17 [] [])) [.t 64, .t 66], none, false, false, [64, 66, 67]⟩])
        (.skip))))))))))
    (.seq (.ops 18 false [⟨some 68, .mv (.t 5), none, false, false, []⟩,
     ⟨some 69, .mv (.t 1), none, false, false, []⟩,
     ⟨some 70, .call (.c (.fn 20 [] [])) [.t 68, .t 69], none, false, false, [68, 69]⟩,
     ⟨some 11, .mv (.t 70), none, false, false, [70]⟩])
    (.seq (.seq (.ops 19 false [⟨some 71, .mv (.t 6), none, false, false, []⟩,
     ⟨some 72, .bin .geq (.t 71) (.c (.int .i64 0)), none, false, false, [71]⟩,
     ⟨some 73, .mv (.t 72), none, false, false, [72]⟩,
     ⟨some 74, .mv (.t 11), (some (73, true)), true, false, []⟩,
     ⟨some 75, .mv (.t 6), (some (73, true)), true, false, []⟩,
     ⟨some 76, .bin .gtr (.o 74) (.o 75), (some (73, true)), true, false, [74, 75]⟩,
     ⟨some 77, .pick (.t 73) (.t 76) (.c (.bool false)), none, false, false, [73, 76]⟩,
     ⟨some 78, .mv (.t 77), none, false, false, [77]⟩,
     ⟨some 79, .mv (.t 6), (some (78, false)), true, false, [6]⟩,
     ⟨some 80, .bin .lss (.o 79) (.c (.int .i64 0)), (some (78, false)), true, false, [79]⟩,
     ⟨some 81, .mv (.o 80), (some (78, false)), true, false, [80]⟩,
     ⟨some 82, .mv (.t 11), (some (81, true)), true, false, []⟩,
     ⟨some 83, .bin .geq (.o 82) (.c (.int .i64 0)), (some (81, true)), true, false, [82]⟩,
     ⟨some 84, .pick (.o 81) (.t 83) (.c (.bool false)), (some (78, false)), true, false, [81, 83]⟩,
     ⟨some 85, .mv (.o 84), (some (78, false)), true, false, [84]⟩,
     ⟨some 86, .mv (.t 11), (some (85, true)), true, false, []⟩,
     ⟨some 87, .mv (.t 5), (some (85, true)), true, false, []⟩,
     ⟨some 88, .call (.c (.fn 24 [] [])) [.o 87], (some (85, true)), true, false, [87]⟩,
     ⟨some 89, .bin .sub (.o 88) (.c (.int .i64 1)), (some (85, true)), true, false, [88]⟩,
     ⟨some 90, .bin .neq (.o 86) (.o 89), (some (85, true)), true, false, [86, 89]⟩,
     ⟨some 91, .pick (.o 85) (.t 90) (.c (.bool false)), (some (78, false)), true, false, [85, 90]⟩,
     ⟨some 92, .pick (.t 78) (.c (.bool true)) (.t 91), none, false, false, [78, 91]⟩])
    (.cond (.t 92)
     (.seq (.ops 20 false [⟨some 4, .mv (.c (.bool false)), none, false, false, []⟩])
     (.ret))
     (.skip)))
    (.ops 21 false [⟨some 93, .mv (.t 11), none, false, false, [11]⟩,
     ⟨some 6, .mv (.t 93), none, false, false, [93]⟩]))))))
   (.ops 22 false [⟨some 94, .bin .add (.t 30) (.c (.int .i64 1)), none, false, false, [30]⟩,
    ⟨some 30, .mv (.t 94), none, false, false, [94]⟩])))))))
 (.seq (.ops 23 false [⟨some 12, .mv (.c (.nilp)), none, false, false, []⟩])
 (.seq (.ops 24 false [⟨some 96, .mv (.t 12), none, false, false, []⟩,
  ⟨some 97, .call (.c (.fn 16 [] [])) [.t 96], none, false, false, [96]⟩,
  ⟨some 95, .mv (.t 97), none, false, false, [97]⟩,
  ⟨some 98, .ext 0 (.t 95), none, false, false, []⟩,
  ⟨some 99, .ext 1 (.t 95), none, false, false, [95]⟩,
  ⟨some 13, .mv (.t 98), none, false, false, [13, 98]⟩,
  ⟨some 14, .mv (.t 99), none, false, false, [99]⟩])
 (.seq (.ops 25 false [⟨some 101, .mv (.t 12), none, false, false, []⟩,
  ⟨some 102, .call (.c (.fn 19 [] [])) [.t 101], none, false, false, [101]⟩,
  ⟨some 100, .mv (.t 102), none, false, false, [102]⟩,
  ⟨some 103, .ext 0 (.t 100), none, false, false, []⟩,
  ⟨some 104, .ext 1 (.t 100), none, false, false, [100]⟩,
  ⟨some 15, .mv (.t 103), none, false, false, [15, 103]⟩,
  ⟨some 16, .mv (.t 104), none, false, false, [104]⟩])
 (.seq (.ops 26 false [⟨some 105, .mv (.t 12), none, false, false, []⟩,
  ⟨some 106, .call (.c (.fn 14 [] [])) [.t 105, .c (.int .i64 1)], none, false, false, [105]⟩,
  ⟨some 107, .bin .eql (.t 106) (.c (.int .i64 9)), none, false, false, [106]⟩,
  ⟨some 108, .mv (.t 107), none, false, false, [107]⟩,
  ⟨some 109, .mv (.t 14), (some (108, true)), true, false, [14]⟩,
  ⟨some 110, .not (.o 109), (some (108, true)), true, false, [109]⟩,
  ⟨some 111, .pick (.t 108) (.t 110) (.c (.bool false)), none, false, false, [108, 110]⟩,
  ⟨some 112, .mv (.t 111), none, false, false, [111]⟩,
  ⟨some 113, .mv (.t 16), (some (112, true)), true, false, [16]⟩,
  ⟨some 114, .not (.o 113), (some (112, true)), true, false, [113]⟩,
  ⟨some 115, .pick (.t 112) (.t 114) (.c (.bool false)), none, false, false, [112, 114]⟩,
  ⟨some 116, .mv (.t 115), none, false, false, [115]⟩,
  ⟨some 117, .mv (.t 12), (some (116, true)), true, false, []⟩,
  ⟨some 118, .call (.c (.fn 17 [] [])) [.o 117, .c (.int .i64 1)], (some (116, true)), true, false, [117]⟩,
  ⟨some 119, .not (.o 118), (some (116, true)), true, false, [118]⟩,
  ⟨some 120, .pick (.t 116) (.t 119) (.c (.bool false)), none, false, false, [116, 119]⟩,
  ⟨some 121, .mv (.t 120), none, false, false, [120]⟩,
  ⟨some 122, .mv (.t 12), (some (121, true)), true, false, []⟩,
  ⟨some 123, .call (.c (.fn 20 [] [])) [.o 122, .c (.int .i64 1)], (some (121, true)), true, false, [122]⟩,
  ⟨some 124, .bin .eql (.o 123) (.c (.int .i64 (-1))), (some (121, true)), true, false, [123]⟩,
  ⟨some 125, .pick (.t 121) (.t 124) (.c (.bool false)), none, false, false, [121, 124]⟩,
  ⟨some 126, .mv (.t 125), none, false, false, [125]⟩,
  ⟨some 127, .mv (.t 12), (some (126, true)), true, false, []⟩,
  ⟨some 128, .call (.c (.fn 24 [] [])) [.o 127], (some (126, true)), true, false, [127]⟩,
  ⟨some 129, .mv (.t 12), (some (126, true)), true, false, [12]⟩,
  ⟨some 130, .call (.c (.fn 25 [] [])) [.o 129], (some (126, true)), true, false, [129]⟩,
  ⟨some 131, .bin .add (.o 128) (.o 130), (some (126, true)), true, false, [128, 130]⟩,
  ⟨some 132, .bin .eql (.o 131) (.c (.int .i64 0)), (some (126, true)), true, false, [131]⟩,
  ⟨some 133, .pick (.t 126) (.t 132) (.c (.bool false)), none, false, false, [126, 132]⟩,
  ⟨some 134, .mv (.t 133), none, false, false, [133]⟩,
  ⟨some 135, .call (.c (.fn 11 [] [])) [], (some (134, true)), true, false, []⟩,
  ⟨some 136, .pick (.t 134) (.t 135) (.c (.bool false)), none, false, false, [134, 135]⟩,
  ⟨some 4, .mv (.t 136), none, false, false, [136]⟩])
 (.ret))))))))))
def rs_l18_FifoFair : List IRes := [.t 4]
theorem ok_l18_FifoFair : fnOk Try.prog 4 ic_l18_FifoFair rs_l18_FifoFair 137 = true := by kernel_rfl

/-- tallyman/tallymanlaw18.alive -/
def ic_l18_alive : ICode :=
 .seq (.ops 0 false [⟨some 0, .mv (.c (.bool false)), none, false, false, [0]⟩])
 (.seq (.ops 1 false [⟨some 7, .call (.c (.fn 12 [] [])) [.c (.int .i64 3)], none, false, false, []⟩,
  ⟨some 1, .mv (.t 7), none, false, false, [7]⟩])
 (.seq (.ops 2 false [⟨some 8, .mv (.t 1), none, false, false, []⟩,
  ⟨some 9, .call (.c (.fn 14 [] [])) [.t 8, .c (.int .i64 4)], none, false, false, [8]⟩,
  ⟨some 10, .mv (.t 1), none, false, false, []⟩,
  ⟨some 11, .call (.c (.fn 14 [] [])) [.t 10, .c (.int .i64 2)], none, false, false, [10]⟩,
  ⟨some 12, .mv (.t 1), none, false, false, []⟩,
  ⟨some 13, .call (.c (.fn 14 [] [])) [.t 12, .c (.int .i64 9)], none, false, false, [12]⟩,
  ⟨some 14, .mv (.t 1), none, false, false, []⟩,
  ⟨some 15, .call (.c (.fn 14 [] [])) [.t 14, .c (.int .i64 4)], none, false, false, [14]⟩,
  ⟨some 16, .mv (.t 1), none, false, false, []⟩,
  ⟨some 17, .call (.c (.fn 14 [] [])) [.t 16, .c (.int .i64 5)], none, false, false, [16]⟩,
  ⟨some 2, .mv (.t 9), none, false, false, [9]⟩,
  ⟨some 3, .mv (.t 11), none, false, false, [11]⟩,
  ⟨some 4, .mv (.t 13), none, false, false, [13]⟩,
  ⟨some 5, .mv (.t 15), none, false, false, [15]⟩,
  ⟨some 6, .mv (.t 17), none, false, false, [17]⟩])
 (.seq (.ops 3 false [⟨some 18, .mv (.t 2), none, false, false, [2]⟩,
  ⟨some 19, .bin .eql (.t 18) (.c (.int .i64 0)), none, false, false, [18]⟩,
  ⟨some 20, .mv (.t 19), none, false, false, [19]⟩,
  ⟨some 21, .mv (.t 3), (some (20, true)), true, false, [3]⟩,
  ⟨some 22, .bin .eql (.o 21) (.c (.int .i64 0)), (some (20, true)), true, false, [21]⟩,
  ⟨some 23, .pick (.t 20) (.t 22) (.c (.bool false)), none, false, false, [20, 22]⟩,
  ⟨some 24, .mv (.t 23), none, false, false, [23]⟩,
  ⟨some 25, .mv (.t 4), (some (24, true)), true, false, [4]⟩,
  ⟨some 26, .bin .eql (.o 25) (.c (.int .i64 0)), (some (24, true)), true, false, [25]⟩,
  ⟨some 27, .pick (.t 24) (.t 26) (.c (.bool false)), none, false, false, [24, 26]⟩,
  ⟨some 28, .mv (.t 27), none, false, false, [27]⟩,
  ⟨some 29, .mv (.t 5), (some (28, true)), true, false, [5]⟩,
  ⟨some 30, .bin .eql (.o 29) (.c (.int .i64 6)), (some (28, true)), true, false, [29]⟩,
  ⟨some 31, .pick (.t 28) (.t 30) (.c (.bool false)), none, false, false, [28, 30]⟩,
  ⟨some 32, .mv (.t 31), none, false, false, [31]⟩,
  ⟨some 33, .mv (.t 6), (some (32, true)), true, false, [6]⟩,
  ⟨some 34, .bin .eql (.o 33) (.c (.int .i64 9)), (some (32, true)), true, false, [33]⟩,
  ⟨some 35, .pick (.t 32) (.t 34) (.c (.bool false)), none, false, false, [32, 34]⟩,
  ⟨some 36, .mv (.t 35), none, false, false, [35]⟩,
  ⟨some 37, .mv (.t 1), (some (36, true)), true, false, []⟩,
  ⟨some 38, .call (.c (.fn 17 [] [])) [.o 37, .c (.int .i64 2)], (some (36, true)), false, false, [37]⟩,
  ⟨some 39, .pick (.t 36) (.t 38) (.c (.bool false)), none, false, false, [36, 38]⟩,
  ⟨some 40, .mv (.t 39), none, false, false, [39]⟩,
  ⟨some 41, .mv (.t 1), (some (40, true)), true, false, []⟩,
  ⟨some 42, .call (.c (.fn 20 [] [])) [.o 41, .c (.int .i64 9)], (some (40, true)), true, false, [41]⟩,
  ⟨some 43, .bin .eql (.o 42) (.c (.int .i64 1)), (some (40, true)), true, false, [42]⟩,
  ⟨some 44, .pick (.t 40) (.t 43) (.c (.bool false)), none, false, false, [40, 43]⟩,
  ⟨some 45, .mv (.t 44), none, false, false, [44]⟩,
  ⟨some 46, .mv (.t 1), (some (45, true)), true, false, []⟩,
  ⟨some 47, .call (.c (.fn 23 [] [])) [.o 46], (some (45, true)), true, false, [46]⟩,
  ⟨some 48, .rowView 1 [.c (.int .i64 4), .c (.int .i64 9)], (some (45, true)), true, false, []⟩,
  ⟨some 49, .call (.c (.fn 22 [] [])) [.o 47, .o 48], (some (45, true)), true, false, [47, 48]⟩,
  ⟨some 50, .pick (.t 45) (.t 49) (.c (.bool false)), none, false, false, [45, 49]⟩,
  ⟨some 51, .mv (.t 50), none, false, false, [50]⟩,
  ⟨some 52, .mv (.t 1), (some (51, true)), true, false, [1]⟩,
  ⟨some 53, .call (.c (.fn 25 [] [])) [.o 52], (some (51, true)), true, false, [52]⟩,
  ⟨some 54, .bin .eql (.o 53) (.c (.int .i64 3)), (some (51, true)), true, false, [53]⟩,
  ⟨some 55, .pick (.t 51) (.t 54) (.c (.bool false)), none, false, false, [51, 54]⟩,
  ⟨some 0, .mv (.t 55), none, false, false, [55]⟩])
 (.ret))))
def rs_l18_alive : List IRes := [.t 0]
theorem ok_l18_alive : fnOk Try.prog 11 ic_l18_alive rs_l18_alive 56 = true := by kernel_rfl

/-- tallyman/tallymanref01.Ints -/
def ic_r01_Ints : ICode :=
 .seq (.ops 0 false [⟨some 4, .mv (.c (.bool false)), none, false, false, [4]⟩])
 (.seq (.seq (.ops 1 false [⟨some 6, .mv (.t 0), none, false, false, []⟩,
  ⟨some 7, .len (.t 6), none, false, false, [6]⟩,
  ⟨some 8, .mv (.t 1), none, false, false, []⟩,
  ⟨some 9, .len (.t 8), none, false, false, [8]⟩,
  ⟨some 10, .bin .neq (.t 7) (.t 9), none, false, false, [7, 9]⟩])
 (.cond (.t 10)
  (.seq (.ops 2 false [⟨some 4, .mv (.c (.bool false)), none, false, false, []⟩])
  (.ret))
  (.skip)))
 (.seq (.seq (.ops 3 false [⟨some 5, .mv (.c (.int .i64 0)), none, false, false, []⟩])
 (.block 0 (.loop [0, 1, 5] (.seq (.seq (.ops 4 false [⟨some 11, .mv (.t 5), none, false, false, []⟩,
    ⟨some 12, .mv (.t 0), none, false, false, []⟩,
    ⟨some 13, .len (.t 12), none, false, false, [12]⟩,
    ⟨some 14, .bin .lss (.t 11) (.t 13), none, false, false, [11, 13]⟩])
   (.cond (.t 14)
    (.skip)
    (.exit 0)))
   (.seq (.block 1 (.seq (.ops 6 true [⟨some 17, .mv (.t 0), none, false, false, []⟩,
     ⟨some 18, .mv (.t 5), none, false, false, []⟩,
     ⟨some 19, .ia 1 [.int .i64 0] (.t 17) (.t 18), none, false, false, [17, 18]⟩,
     ⟨some 20, .ld none [.int .i64 0] (.t 19), none, false, false, [19]⟩,
     ⟨some 21, .mv (.t 1), none, false, false, []⟩,
     ⟨some 22, .mv (.t 5), none, false, false, []⟩,
     ⟨some 23, .ia 1 [.int .i64 0] (.t 21) (.t 22), none, false, false, [21, 22]⟩,
     ⟨some 24, .ld none [.int .i64 0] (.t 23), none, false, false, [23]⟩,
     ⟨some 25, .bin .neq (.t 20) (.t 24), none, false, false, [20, 24]⟩])
    (.cond (.t 25)
     (.seq (.ops 7 false [⟨some 4, .mv (.c (.bool false)), none, false, false, []⟩])
     (.ret))
     (.skip))))
   (.ops 5 false [⟨some 15, .mv (.t 5), none, false, false, [5]⟩,
    ⟨some 16, .bin .add (.t 15) (.c (.int .i64 1)), none, false, false, [15]⟩,
    ⟨some 5, .mv (.t 16), none, false, false, [16]⟩]))))))
 (.seq (.ops 8 false [⟨some 4, .mv (.c (.bool true)), none, false, false, []⟩])
 (.ret))))
def rs_r01_Ints : List IRes := [.t 4]
theorem ok_r01_Ints : fnOk Try.prog 22 ic_r01_Ints rs_r01_Ints 26 = true := by kernel_rfl

/-- tallyman/tallymanref02.Clip -/
def ic_r02_Clip : ICode :=
 .seq (.ops 0 false [⟨some 6, .mv (.c (.int .i64 0)), none, false, false, [6]⟩])
 (.seq (.seq (.ops 1 false [⟨some 7, .mv (.t 0), none, false, false, []⟩,
  ⟨some 8, .mv (.t 1), none, false, false, []⟩,
  ⟨some 9, .bin .lss (.t 7) (.t 8), none, false, false, [7, 8]⟩])
 (.cond (.t 9)
  (.seq (.ops 2 false [⟨some 10, .mv (.t 1), none, false, false, [1]⟩,
   ⟨some 6, .mv (.t 10), none, false, false, [10]⟩])
  (.ret))
  (.skip)))
 (.seq (.seq (.ops 3 false [⟨some 11, .mv (.t 0), none, false, false, []⟩,
  ⟨some 12, .mv (.t 2), none, false, false, []⟩,
  ⟨some 13, .bin .gtr (.t 11) (.t 12), none, false, false, [11, 12]⟩])
 (.cond (.t 13)
  (.seq (.ops 4 false [⟨some 14, .mv (.t 2), none, false, false, [2]⟩,
   ⟨some 6, .mv (.t 14), none, false, false, [14]⟩])
  (.ret))
  (.skip)))
 (.seq (.ops 5 false [⟨some 15, .mv (.t 0), none, false, false, [0]⟩,
  ⟨some 6, .mv (.t 15), none, false, false, [15]⟩])
 (.ret))))
def rs_r02_Clip : List IRes := [.t 6]
theorem ok_r02_Clip : fnOk Try.prog 13 ic_r02_Clip rs_r02_Clip 16 = true := by kernel_rfl

/-- tallyman/tallymanref16.In -/
def ic_r16_In : ICode :=
 .seq (.ops 0 false [⟨some 4, .mv (.c (.bool false)), none, false, false, [4]⟩])
 (.seq (.seq (.ops 1 false [⟨some 5, .mv (.c (.int .i64 0)), none, false, false, []⟩])
 (.block 0 (.loop [0, 1, 5] (.seq (.seq (.ops 2 false [⟨some 6, .mv (.t 5), none, false, false, []⟩,
    ⟨some 7, .mv (.t 0), none, false, false, []⟩,
    ⟨some 8, .len (.t 7), none, false, false, [7]⟩,
    ⟨some 9, .bin .lss (.t 6) (.t 8), none, false, false, [6, 8]⟩])
   (.cond (.t 9)
    (.skip)
    (.exit 0)))
   (.seq (.block 1 (.seq (.ops 4 false [⟨some 12, .mv (.t 0), none, false, false, []⟩,
     ⟨some 13, .mv (.t 5), none, false, false, []⟩,
     ⟨some 14, .ia 1 [.int .i64 0] (.t 12) (.t 13), none, false, false, [12, 13]⟩,
     ⟨some 15, .ld none [.int .i64 0] (.t 14), none, false, false, [14]⟩,
     ⟨some 16, .mv (.t 1), none, false, false, []⟩,
     ⟨some 17, .bin .eql (.t 15) (.t 16), none, false, false, [15, 16]⟩])
    (.cond (.t 17)
     (.seq (.ops 5 false [⟨some 4, .mv (.c (.bool true)), none, false, false, []⟩])
     (.ret))
     (.skip))))
   (.ops 3 false [⟨some 10, .mv (.t 5), none, false, false, [5]⟩,
    ⟨some 11, .bin .add (.t 10) (.c (.int .i64 1)), none, false, false, [10]⟩,
    ⟨some 5, .mv (.t 11), none, false, false, [11]⟩]))))))
 (.seq (.ops 6 false [⟨some 4, .mv (.c (.bool false)), none, false, false, []⟩])
 (.ret)))
def rs_r16_In : List IRes := [.t 4]
theorem ok_r16_In : fnOk Try.prog 61 ic_r16_In rs_r16_In 18 = true := by kernel_rfl

/-- tallyman/tallymanref18.At -/
def ic_r18_At : ICode :=
 .seq (.ops 0 false [⟨some 4, .mv (.c (.int .i64 0)), none, false, false, [4]⟩])
 (.seq (.seq (.ops 1 false [⟨some 5, .mv (.c (.int .i64 0)), none, false, false, []⟩])
 (.block 0 (.loop [0, 1, 5] (.seq (.seq (.ops 2 false [⟨some 6, .mv (.t 5), none, false, false, []⟩,
    ⟨some 7, .mv (.t 0), none, false, false, []⟩,
    ⟨some 8, .len (.t 7), none, false, false, [7]⟩,
    ⟨some 9, .bin .lss (.t 6) (.t 8), none, false, false, [6, 8]⟩])
   (.cond (.t 9)
    (.skip)
    (.exit 0)))
   (.seq (.block 1 (.seq (.ops 4 false [⟨some 12, .mv (.t 0), none, false, false, []⟩,
     ⟨some 13, .mv (.t 5), none, false, false, []⟩,
     ⟨some 14, .ia 1 [.int .i64 0] (.t 12) (.t 13), none, false, false, [12, 13]⟩,
     ⟨some 15, .ld none [.int .i64 0] (.t 14), none, false, false, [14]⟩,
     ⟨some 16, .mv (.t 1), none, false, false, []⟩,
     ⟨some 17, .bin .eql (.t 15) (.t 16), none, false, false, [15, 16]⟩])
    (.cond (.t 17)
     (.seq (.ops 5 false [⟨some 18, .mv (.t 5), none, false, false, [5]⟩,
      ⟨some 4, .mv (.t 18), none, false, false, [18]⟩])
     (.ret))
     (.skip))))
   (.ops 3 false [⟨some 10, .mv (.t 5), none, false, false, [5]⟩,
    ⟨some 11, .bin .add (.t 10) (.c (.int .i64 1)), none, false, false, [10]⟩,
    ⟨some 5, .mv (.t 11), none, false, false, [11]⟩]))))))
 (.seq (.ops 6 false [⟨some 4, .mv (.c (.int .i64 (-1))), none, false, false, []⟩])
 (.ret)))
def rs_r18_At : List IRes := [.t 4]
theorem ok_r18_At : fnOk Try.prog 21 ic_r18_At rs_r18_At 19 = true := by kernel_rfl

/-- tallyman/tallymanref18.Drop -/
def ic_r18_Drop : ICode :=
 .seq (.ops 0 false [⟨some 4, .mv (.c (.nils)), none, false, false, [4]⟩,
  ⟨some 5, .mv (.c (.bool false)), none, false, false, [5]⟩])
 (.seq (.ops 1 false [⟨some 6, .mv (.c (.nils)), none, false, false, []⟩])
 (.seq (.seq (.ops 2 false [⟨some 7, .mv (.c (.int .i64 0)), none, false, false, []⟩])
 (.block 0 (.loop [0, 1, 6, 7] (.seq (.seq (.ops 3 false [⟨some 8, .mv (.t 7), none, false, false, []⟩,
    ⟨some 9, .mv (.t 0), none, false, false, []⟩,
    ⟨some 10, .len (.t 9), none, false, false, [9]⟩,
    ⟨some 11, .bin .lss (.t 8) (.t 10), none, false, false, [8, 10]⟩])
   (.cond (.t 11)
    (.skip)
    (.exit 0)))
   (.seq (.block 1 (.seq (.ops 5 false [⟨some 14, .mv (.t 0), none, false, false, []⟩,
     ⟨some 15, .mv (.t 7), none, false, false, []⟩,
     ⟨some 16, .ia 1 [.int .i64 0] (.t 14) (.t 15), none, false, false, [14, 15]⟩,
     ⟨some 17, .ld none [.int .i64 0] (.t 16), none, false, false, [16]⟩,
     ⟨some 18, .mv (.t 1), none, false, false, []⟩,
     ⟨some 19, .bin .neq (.t 17) (.t 18), none, false, false, [17, 18]⟩])
    (.cond (.t 19)
     (.ops 6 false [⟨some 20, .mv (.t 6), none, false, false, [6]⟩,
      ⟨some 21, .mv (.t 0), none, false, false, []⟩,
      ⟨some 22, .mv (.t 7), none, false, false, []⟩,
      ⟨some 23, .ia 1 [.int .i64 0] (.t 21) (.t 22), none, false, false, [21, 22]⟩,
      ⟨some 24, .ld none [.int .i64 0] (.t 23), none, false, false, [23]⟩,
      ⟨some 25, .rowView 1 [.t 24], none, false, false, [24]⟩,
      ⟨some 26, .app 1 (.t 20) (.t 25), none, false, false, [20, 25]⟩,
      ⟨some 6, .mv (.t 26), none, false, false, [26]⟩])
     (.skip))))
   (.ops 4 false [⟨some 12, .mv (.t 7), none, false, false, [7]⟩,
    ⟨some 13, .bin .add (.t 12) (.c (.int .i64 1)), none, false, false, [12]⟩,
    ⟨some 7, .mv (.t 13), none, false, false, [13]⟩]))))))
 (.seq (.ops 7 false [⟨some 27, .mv (.t 6), none, false, false, []⟩,
  ⟨some 28, .mv (.t 6), none, false, false, [6]⟩,
  ⟨some 29, .len (.t 28), none, false, false, [28]⟩,
  ⟨some 30, .mv (.t 0), none, false, false, [0]⟩,
  ⟨some 31, .len (.t 30), none, false, false, [30]⟩,
  ⟨some 32, .bin .lss (.t 29) (.t 31), none, false, false, [29, 31]⟩,
  ⟨some 4, .mv (.t 27), none, false, false, [27]⟩,
  ⟨some 5, .mv (.t 32), none, false, false, [32]⟩])
 (.ret))))
def rs_r18_Drop : List IRes := [.t 4, .t 5]
theorem ok_r18_Drop : fnOk Try.prog 18 ic_r18_Drop rs_r18_Drop 33 = true := by kernel_rfl

/-- tallyman/tallymanref18.Put -/
def ic_r18_Put : ICode :=
 .seq (.ops 0 false [⟨some 6, .mv (.c (.nils)), none, false, false, [6]⟩,
  ⟨some 7, .mv (.c (.int .i64 0)), none, false, false, [7]⟩])
 (.seq (.seq (.ops 1 false [⟨some 8, .mv (.t 0), none, false, false, []⟩,
  ⟨some 9, .mv (.t 2), none, false, false, []⟩,
  ⟨some 10, .call (.c (.fn 61 [] [])) [.t 8, .t 9], none, false, false, [8, 9]⟩])
 (.cond (.t 10)
  (.seq (.ops 2 false [⟨some 11, .mv (.t 0), none, false, false, [0]⟩,
   ⟨some 6, .mv (.t 11), none, false, false, [11]⟩,
   ⟨some 7, .mv (.c (.int .i64 6)), none, false, false, []⟩])
  (.ret))
  (.skip)))
 (.seq (.seq (.ops 3 false [⟨some 12, .mv (.t 0), none, false, false, []⟩,
  ⟨some 13, .len (.t 12), none, false, false, [12]⟩,
  ⟨some 14, .mv (.t 1), none, false, false, [1]⟩,
  ⟨some 15, .bin .geq (.t 13) (.t 14), none, false, false, [13, 14]⟩])
 (.cond (.t 15)
  (.seq (.ops 4 false [⟨some 16, .mv (.t 0), none, false, false, [0]⟩,
   ⟨some 6, .mv (.t 16), none, false, false, [16]⟩,
   ⟨some 7, .mv (.c (.int .i64 9)), none, false, false, []⟩])
  (.ret))
  (.skip)))
 (.seq (.ops 5 false [⟨some 17, .rowOwn 1 [], none, false, false, []⟩,
  ⟨some 18, .mv (.t 0), none, false, false, [0]⟩,
  ⟨some 19, .app 1 (.t 17) (.t 18), none, false, false, [17, 18]⟩,
  ⟨some 20, .mv (.t 2), none, false, false, [2]⟩,
  ⟨some 21, .rowView 1 [.t 20], none, false, false, [20]⟩,
  ⟨some 22, .app 1 (.t 19) (.t 21), none, false, false, [19, 21]⟩,
  ⟨some 6, .mv (.t 22), none, false, false, [22]⟩,
  ⟨some 7, .mv (.c (.int .i64 0)), none, false, false, []⟩])
 (.ret))))
def rs_r18_Put : List IRes := [.t 6, .t 7]
theorem ok_r18_Put : fnOk Try.prog 15 ic_r18_Put rs_r18_Put 23 = true := by kernel_rfl

end Go.Proofs.Ytphkdomiehboaaa.Sx
