/- Functions of the seat in the small language. No conditions: a kit of our own. -/
import Derived.Test.YtnckibgcjgeekaaGreatProg
import Derived.Test.YtnckibgcjgeekaaGreatSx17
namespace Go.Proofs.YtnckibgcjgeekaaGreat.Sx
open Go Go.RowKit
set_option linter.unusedVariables false

/-- (*tallyman/snap.writer).word -/
def ic_snap_writer_word : ICode :=
 .ops 0 false [⟨some 4, .mv (.t 0), none, false, false, []⟩,
  ⟨some 5, .mv (.t 0), none, false, false, [0]⟩,
  ⟨some 6, .nilc (.t 5), none, false, false, [5]⟩,
  ⟨some 7, .fa 0 (.t 6), none, false, false, [6]⟩,
  ⟨some 8, .ld none [] (.t 7), none, false, false, [7]⟩,
  ⟨some 9, .mv (.t 1), none, false, false, [1]⟩,
  ⟨some 10, .call (.c (.fn 122 [] [])) [.t 8, .t 9], none, false, false, [8, 9]⟩,
  ⟨some 11, .nilc (.t 4), none, false, false, [4]⟩,
  ⟨some 12, .fa 0 (.t 11), none, false, false, [11]⟩,
  ⟨none, .st 1 (.t 12) (.t 10), none, false, false, [10, 12]⟩]
def rs_snap_writer_word : List IRes := []
theorem ok_snap_writer_word : fnOk Tryz.prog 59 ic_snap_writer_word rs_snap_writer_word 13 = true := by kernel_rfl

/-- (*tallyman/snap.writer).nums -/
def ic_snap_writer_nums : ICode :=
 .seq (.ops 0 false [⟨some 6, .mv (.t 1), none, false, false, [1]⟩,
  ⟨some 7, .len (.t 6), none, false, false, []⟩,
  ⟨some 8, .mv (.c (.int .i64 0)), none, false, false, []⟩])
 (.block 0 (.loop [0, 6, 7, 8] (.seq (.ops 1 false [⟨some 9, .bin .lss (.t 8) (.t 7), none, false, false, []⟩])
   (.seq (.cond (.t 9)
    (.skip)
    (.exit 0))
   (.seq (.block 1 (.seq (.ops 2 false [⟨some 10, .ia 1 [.int .i64 0] (.t 6) (.t 8), none, false, false, []⟩,
     ⟨some 11, .ld none [.int .i64 0] (.t 10), none, false, false, [10]⟩,
     ⟨some 5, .mv (.t 11), none, false, false, [11]⟩])
    (.ops 3 false [⟨some 12, .mv (.t 0), none, false, false, []⟩,
     ⟨some 13, .mv (.t 5), none, false, false, [5]⟩,
     ⟨some 14, .cvw .u64 (.t 13), none, false, false, [13]⟩,
     ⟨some 15, .call (.c (.fn 59 [] [])) [.t 12, .t 14], none, false, false, [12, 14, 15]⟩])))
   (.ops 4 false [⟨some 16, .bin .add (.t 8) (.c (.int .i64 1)), none, false, false, [8]⟩,
    ⟨some 8, .mv (.t 16), none, false, false, [16]⟩]))))))
def rs_snap_writer_nums : List IRes := []
theorem ok_snap_writer_nums : fnOk Tryz.prog 18 ic_snap_writer_nums rs_snap_writer_nums 17 = true := by kernel_rfl

/-- (*tallyman/snap.writer).list -/
def ic_snap_writer_list : ICode :=
 .seq (.ops 0 false [⟨some 4, .mv (.t 0), none, false, false, []⟩,
  ⟨some 5, .mv (.t 1), none, false, false, []⟩,
  ⟨some 6, .len (.t 5), none, false, false, [5]⟩,
  ⟨some 7, .rowView 1 [.t 6], none, false, false, [6]⟩,
  ⟨some 8, .call (.c (.fn 18 [] [])) [.t 4, .t 7], none, false, false, [4, 7, 8]⟩])
 (.ops 1 false [⟨some 9, .mv (.t 0), none, false, false, [0]⟩,
  ⟨some 10, .mv (.t 1), none, false, false, [1]⟩,
  ⟨some 11, .call (.c (.fn 18 [] [])) [.t 9, .t 10], none, false, false, [9, 10, 11]⟩])
def rs_snap_writer_list : List IRes := []
theorem ok_snap_writer_list : fnOk Tryz.prog 20 ic_snap_writer_list rs_snap_writer_list 12 = true := by kernel_rfl

/-- (*tallyman/snap.writer).point -/
def ic_snap_writer_point : ICode :=
 .seq (.ops 0 false [⟨some 3, .box (.t 1), none, false, false, [1]⟩])
 (.seq (.ops 1 false [⟨some 4, .mv (.t 0), none, false, false, []⟩,
  ⟨some 5, .fa 0 (.t 3), none, false, false, []⟩,
  ⟨some 6, .ld none [] (.t 5), none, false, false, [5]⟩,
  ⟨some 7, .call (.c (.fn 61 [] [])) [.t 6], none, false, false, [6]⟩,
  ⟨some 8, .call (.c (.fn 59 [] [])) [.t 4, .t 7], none, false, false, [4, 7, 8]⟩])
 (.ops 2 false [⟨some 9, .mv (.t 0), none, false, false, [0]⟩,
  ⟨some 10, .fa 1 (.t 3), none, false, false, [3]⟩,
  ⟨some 11, .ld none [] (.t 10), none, false, false, [10]⟩,
  ⟨some 12, .call (.c (.fn 61 [] [])) [.t 11], none, false, false, [11]⟩,
  ⟨some 13, .call (.c (.fn 59 [] [])) [.t 9, .t 12], none, false, false, [9, 12, 13]⟩]))
def rs_snap_writer_point : List IRes := []
theorem ok_snap_writer_point : fnOk Tryz.prog 58 ic_snap_writer_point rs_snap_writer_point 14 = true := by kernel_rfl

/-- tallyman/snap.bit -/
def ic_snap_bit : ICode :=
 .seq (.ops 0 false [⟨some 2, .mv (.c (.int .i64 0)), none, false, false, [2]⟩])
 (.seq (.seq (.ops 1 false [⟨some 3, .mv (.t 0), none, false, false, [0]⟩])
 (.cond (.t 3)
  (.seq (.ops 2 false [⟨some 2, .mv (.c (.int .i64 1)), none, false, false, []⟩])
  (.ret))
  (.skip)))
 (.seq (.ops 3 false [⟨some 2, .mv (.c (.int .i64 0)), none, false, false, []⟩])
 (.ret)))
def rs_snap_bit : List IRes := [.t 2]
theorem ok_snap_bit : fnOk Tryz.prog 62 ic_snap_bit rs_snap_bit 4 = true := by kernel_rfl

/-- (*tallyman/snap.writer).hands -/
def ic_snap_writer_hands : ICode :=
 .seq (.ops 0 false [⟨some 6, .mv (.t 0), none, false, false, []⟩,
  ⟨some 7, .mv (.t 1), none, false, false, []⟩,
  ⟨some 8, .len (.t 7), none, false, false, [7]⟩,
  ⟨some 9, .rowView 1 [.t 8], none, false, false, [8]⟩,
  ⟨some 10, .call (.c (.fn 18 [] [])) [.t 6, .t 9], none, false, false, [6, 9, 10]⟩])
 (.seq (.ops 1 false [⟨some 11, .mv (.t 1), none, false, false, [1]⟩,
  ⟨some 12, .len (.t 11), none, false, false, []⟩,
  ⟨some 13, .mv (.c (.int .i64 0)), none, false, false, []⟩])
 (.block 0 (.loop [0, 11, 12, 13] (.seq (.ops 2 false [⟨some 14, .bin .lss (.t 13) (.t 12), none, false, false, []⟩])
   (.seq (.cond (.t 14)
    (.skip)
    (.exit 0))
   (.seq (.block 1 (.seq (.ops 3 false [⟨some 15, .ia 3 [.int .i64 0, .int .u64 0, .bool false] (.t 11) (.t 13), none, false, false, []⟩,
     ⟨some 16, .ld (some 3) [.int .i64 0, .int .u64 0, .bool false] (.t 15), none, false, false, [15]⟩,
     ⟨some 5, .alloc [.int .i64 0, .int .u64 0, .bool false], none, false, false, []⟩,
     ⟨none, .st 3 (.t 5) (.t 16), none, false, false, [16]⟩])
    (.seq (.ops 4 false [⟨some 17, .mv (.t 0), none, false, false, []⟩,
     ⟨some 18, .fa 0 (.t 5), none, false, false, []⟩,
     ⟨some 19, .ld none [] (.t 18), none, false, false, [18]⟩,
     ⟨some 20, .rowView 1 [.t 19], none, false, false, [19]⟩,
     ⟨some 21, .call (.c (.fn 18 [] [])) [.t 17, .t 20], none, false, false, [17, 20, 21]⟩])
    (.seq (.ops 5 false [⟨some 22, .mv (.t 0), none, false, false, []⟩,
     ⟨some 23, .fa 1 (.t 5), none, false, false, []⟩,
     ⟨some 24, .ld none [] (.t 23), none, false, false, [23]⟩,
     ⟨some 25, .call (.c (.fn 59 [] [])) [.t 22, .t 24], none, false, false, [22, 24, 25]⟩])
    (.ops 6 false [⟨some 26, .mv (.t 0), none, false, false, []⟩,
     ⟨some 27, .fa 2 (.t 5), none, false, false, [5]⟩,
     ⟨some 28, .ld none [] (.t 27), none, false, false, [27]⟩,
     ⟨some 29, .call (.c (.fn 62 [] [])) [.t 28], none, false, false, [28]⟩,
     ⟨some 30, .rowView 1 [.t 29], none, false, false, [29]⟩,
     ⟨some 31, .call (.c (.fn 18 [] [])) [.t 26, .t 30], none, false, false, [26, 30, 31]⟩])))))
   (.ops 7 false [⟨some 32, .bin .add (.t 13) (.c (.int .i64 1)), none, false, false, [13]⟩,
    ⟨some 13, .mv (.t 32), none, false, false, [32]⟩])))))))
def rs_snap_writer_hands : List IRes := []
theorem ok_snap_writer_hands : fnOk Tryz.prog 21 ic_snap_writer_hands rs_snap_writer_hands 33 = true := by kernel_rfl

/-- (*tallyman/snap.writer).rules -/
def ic_snap_writer_rules : ICode :=
 .seq (.ops 0 false [⟨some 3, .box (.t 1), none, false, false, [1]⟩])
 (.seq (.ops 1 false [⟨some 6, .mv (.t 0), none, false, false, []⟩,
  ⟨some 7, .fa 0 (.t 3), none, false, false, []⟩,
  ⟨some 8, .ld none [] (.t 7), none, false, false, [7]⟩,
  ⟨some 9, .fa 1 (.t 3), none, false, false, []⟩,
  ⟨some 10, .ld none [] (.t 9), none, false, false, [9]⟩,
  ⟨some 11, .fa 2 (.t 3), none, false, false, []⟩,
  ⟨some 12, .ld none [] (.t 11), none, false, false, [11]⟩,
  ⟨some 13, .fa 3 (.t 3), none, false, false, []⟩,
  ⟨some 14, .ld none [] (.t 13), none, false, false, [13]⟩,
  ⟨some 15, .fa 4 (.t 3), none, false, false, []⟩,
  ⟨some 16, .ld none [] (.t 15), none, false, false, [15]⟩,
  ⟨some 17, .fa 5 (.t 3), none, false, false, []⟩,
  ⟨some 18, .ld none [] (.t 17), none, false, false, [17]⟩,
  ⟨some 19, .fa 6 (.t 3), none, false, false, []⟩,
  ⟨some 20, .ld none [] (.t 19), none, false, false, [19]⟩,
  ⟨some 21, .fa 7 (.t 3), none, false, false, []⟩,
  ⟨some 22, .ld none [] (.t 21), none, false, false, [21]⟩,
  ⟨some 23, .len (.t 22), none, false, false, [22]⟩,
  ⟨some 24, .rowView 1 [.t 8, .t 10, .t 12, .t 14, .t 16, .t 18, .t 20, .t 23], none, false, false, [8, 10, 12, 14, 16, 18, 20, 23]⟩,
  ⟨some 25, .call (.c (.fn 18 [] [])) [.t 6, .t 24], none, false, false, [6, 24, 25]⟩])
 (.seq (.ops 2 false [⟨some 26, .fa 7 (.t 3), none, false, false, [3]⟩,
  ⟨some 27, .ld none [] (.t 26), none, false, false, [26]⟩,
  ⟨some 28, .len (.t 27), none, false, false, []⟩,
  ⟨some 29, .mv (.c (.int .i64 0)), none, false, false, []⟩])
 (.block 0 (.loop [0, 27, 28, 29] (.seq (.ops 3 false [⟨some 30, .bin .lss (.t 29) (.t 28), none, false, false, []⟩])
   (.seq (.cond (.t 30)
    (.skip)
    (.exit 0))
   (.seq (.block 1 (.seq (.ops 4 false [⟨some 31, .ia 5 [.int .i64 0, .int .i64 0, .int .i64 0, .int .i64 0, .int .i64 0] (.t 27) (.t 29), none, false, false, []⟩,
     ⟨some 32, .ld (some 5) [.int .i64 0, .int .i64 0, .int .i64 0, .int .i64 0, .int .i64 0] (.t 31), none, false, false, [31]⟩,
     ⟨some 5, .alloc [.int .i64 0, .int .i64 0, .int .i64 0, .int .i64 0, .int .i64 0], none, false, false, []⟩,
     ⟨none, .st 5 (.t 5) (.t 32), none, false, false, [32]⟩])
    (.seq (.ops 5 false [⟨some 33, .mv (.t 0), none, false, false, []⟩,
     ⟨some 34, .fa 0 (.t 5), none, false, false, []⟩,
     ⟨some 35, .ld none [] (.t 34), none, false, false, [34]⟩,
     ⟨some 36, .rowView 1 [.t 35], none, false, false, [35]⟩,
     ⟨some 37, .call (.c (.fn 18 [] [])) [.t 33, .t 36], none, false, false, [33, 36, 37]⟩])
    (.seq (.ops 6 false [⟨some 38, .mv (.t 0), none, false, false, []⟩,
     ⟨some 39, .fa 1 (.t 5), none, false, false, []⟩,
     ⟨some 40, .ld (some 2) [] (.t 39), none, false, false, [39]⟩,
     ⟨some 41, .call (.c (.fn 58 [] [])) [.t 38, .t 40], none, false, false, [38, 40, 41]⟩])
    (.ops 7 false [⟨some 42, .mv (.t 0), none, false, false, []⟩,
     ⟨some 43, .fa 3 (.t 5), none, false, false, [5]⟩,
     ⟨some 44, .ld (some 2) [] (.t 43), none, false, false, [43]⟩,
     ⟨some 45, .call (.c (.fn 58 [] [])) [.t 42, .t 44], none, false, false, [42, 44, 45]⟩])))))
   (.ops 8 false [⟨some 46, .bin .add (.t 29) (.c (.int .i64 1)), none, false, false, [29]⟩,
    ⟨some 29, .mv (.t 46), none, false, false, [46]⟩]))))))))
def rs_snap_writer_rules : List IRes := []
theorem ok_snap_writer_rules : fnOk Tryz.prog 17 ic_snap_writer_rules rs_snap_writer_rules 47 = true := by kernel_rfl

/-- tallyman/snap.Encode -/
def ic_snap_Encode : ICode :=
 .seq (.ops 0 false [⟨some 2, .box (.t 0), none, false, false, [0]⟩,
  ⟨some 3, .box (.t 1), none, false, false, [1]⟩,
  ⟨some 4, .mv (.c (.nils)), none, false, false, [4]⟩,
  ⟨some 5, .mv (.c (.int .i64 0)), none, false, false, [5]⟩])
 (.seq (.seq (.ops 1 false [⟨some 14, .ld (some 8) [] (.t 2), none, false, false, []⟩,
  ⟨some 15, .ld (some 8) [] (.t 3), none, false, false, []⟩,
  ⟨some 16, .call (.c (.fn 16 [] [])) [.t 14, .t 15], none, false, false, [14, 15]⟩,
  ⟨some 6, .mv (.t 16), none, false, false, [16]⟩])
 (.seq (.ops 2 false [⟨some 17, .mv (.t 6), none, false, false, []⟩,
  ⟨some 18, .bin .neq (.t 17) (.c (.int .i64 0)), none, false, false, [17]⟩])
 (.cond (.t 18)
  (.seq (.ops 3 false [⟨some 19, .mv (.t 6), none, false, false, [6]⟩,
   ⟨some 4, .mv (.c (.nils)), none, false, false, []⟩,
   ⟨some 5, .mv (.t 19), none, false, false, [19]⟩])
  (.ret))
  (.skip))))
 (.seq (.ops 4 false [⟨some 20, .build [.nils] [], none, false, false, []⟩,
  ⟨some 21, .box (.t 20), none, false, false, [20]⟩,
  ⟨some 7, .mv (.t 21), none, false, false, [21]⟩])
 (.seq (.ops 5 false [⟨some 22, .mv (.t 7), none, false, false, []⟩,
  ⟨some 23, .ld (some 8) [] (.t 2), none, false, false, [2]⟩,
  ⟨some 24, .call (.c (.fn 17 [] [])) [.t 22, .t 23], none, false, false, [22, 23, 24]⟩])
 (.seq (.ops 6 false [⟨some 25, .mv (.t 7), none, false, false, []⟩,
  ⟨some 26, .fa 0 (.t 3), none, false, false, []⟩,
  ⟨some 27, .ld none [] (.t 26), none, false, false, [26]⟩,
  ⟨some 28, .fa 1 (.t 3), none, false, false, []⟩,
  ⟨some 29, .ld none [] (.t 28), none, false, false, [28]⟩,
  ⟨some 30, .fa 2 (.t 3), none, false, false, []⟩,
  ⟨some 31, .ld none [] (.t 30), none, false, false, [30]⟩,
  ⟨some 32, .fa 3 (.t 3), none, false, false, []⟩,
  ⟨some 33, .ld none [] (.t 32), none, false, false, [32]⟩,
  ⟨some 34, .len (.t 33), none, false, false, [33]⟩,
  ⟨some 35, .rowView 1 [.t 27, .t 29, .t 31, .t 34], none, false, false, [27, 29, 31, 34]⟩,
  ⟨some 36, .call (.c (.fn 18 [] [])) [.t 25, .t 35], none, false, false, [25, 35, 36]⟩])
 (.seq (.seq (.ops 7 false [⟨some 37, .fa 3 (.t 3), none, false, false, []⟩,
  ⟨some 38, .ld none [] (.t 37), none, false, false, [37]⟩,
  ⟨some 39, .len (.t 38), none, false, false, []⟩,
  ⟨some 40, .mv (.c (.int .i64 0)), none, false, false, []⟩])
 (.block 0 (.loop [3, 7, 38, 39, 40] (.seq (.ops 8 false [⟨some 41, .bin .lss (.t 40) (.t 39), none, false, false, []⟩])
   (.seq (.cond (.t 41)
    (.skip)
    (.exit 0))
   (.seq (.block 1 (.seq (.ops 9 false [⟨some 42, .ia 14 [.int .i64 0, .int .i64 0, .int .u64 0, .int .u64 0, .int .i64 0, .int .i64 0, .int .i64 0, .int .i64 0, .view [], .int .i64 0, .int .i64 0, .int .i64 0, .int .i64 0, .view []] (.t 38) (.t 40), none, false, false, []⟩,
     ⟨some 43, .ld (some 14) [.int .i64 0, .int .i64 0, .int .u64 0, .int .u64 0, .int .i64 0, .int .i64 0, .int .i64 0, .int .i64 0, .view [], .int .i64 0, .int .i64 0, .int .i64 0, .int .i64 0, .view []] (.t 42), none, false, false, [42]⟩,
     ⟨some 9, .alloc [.int .i64 0, .int .i64 0, .int .u64 0, .int .u64 0, .int .i64 0, .int .i64 0, .int .i64 0, .int .i64 0, .nils, .int .i64 0, .int .i64 0, .int .i64 0, .int .i64 0, .nils], none, false, false, []⟩,
     ⟨none, .st 14 (.t 9) (.t 43), none, false, false, [43]⟩])
    (.seq (.ops 10 true [⟨some 44, .mv (.t 7), none, false, false, []⟩,
     ⟨some 45, .mv (.t 7), none, false, false, []⟩,
     ⟨some 46, .nilc (.t 45), none, false, false, [45]⟩,
     ⟨some 47, .fa 0 (.t 46), none, false, false, [46]⟩,
     ⟨some 48, .ld none [] (.t 47), none, false, false, [47]⟩,
     ⟨some 49, .fa 0 (.t 9), none, false, false, []⟩,
     ⟨some 50, .ld (some 9) [] (.t 49), none, false, false, [49]⟩,
     ⟨some 51, .call (.c (.fn 19 [] [])) [.t 48, .t 50], none, false, false, [48, 50]⟩,
     ⟨some 52, .nilc (.t 44), none, false, false, [44]⟩,
     ⟨some 53, .fa 0 (.t 52), none, false, false, [52]⟩,
     ⟨none, .st 1 (.t 53) (.t 51), none, false, false, [51, 53]⟩])
    (.seq (.ops 11 false [⟨some 54, .mv (.t 7), none, false, false, []⟩,
     ⟨some 55, .fa 9 (.t 9), none, false, false, []⟩,
     ⟨some 56, .ld none [] (.t 55), none, false, false, [55]⟩,
     ⟨some 57, .fa 10 (.t 9), none, false, false, []⟩,
     ⟨some 58, .ld none [] (.t 57), none, false, false, [57]⟩,
     ⟨some 59, .fa 11 (.t 9), none, false, false, []⟩,
     ⟨some 60, .ld none [] (.t 59), none, false, false, [59]⟩,
     ⟨some 61, .fa 12 (.t 9), none, false, false, []⟩,
     ⟨some 62, .ld none [] (.t 61), none, false, false, [61]⟩,
     ⟨some 63, .rowView 1 [.t 56, .t 58, .t 60, .t 62], none, false, false, [56, 58, 60, 62]⟩,
     ⟨some 64, .call (.c (.fn 18 [] [])) [.t 54, .t 63], none, false, false, [54, 63, 64]⟩])
    (.ops 12 false [⟨some 65, .mv (.t 7), none, false, false, []⟩,
     ⟨some 66, .fa 13 (.t 9), none, false, false, [9]⟩,
     ⟨some 67, .ld none [] (.t 66), none, false, false, [66]⟩,
     ⟨some 68, .call (.c (.fn 20 [] [])) [.t 65, .t 67], none, false, false, [65, 67, 68]⟩])))))
   (.ops 13 false [⟨some 69, .bin .add (.t 40) (.c (.int .i64 1)), none, false, false, [40]⟩,
    ⟨some 40, .mv (.t 69), none, false, false, [69]⟩])))))))
 (.seq (.ops 14 false [⟨some 70, .mv (.t 7), none, false, false, []⟩,
  ⟨some 71, .fa 4 (.t 3), none, false, false, []⟩,
  ⟨some 72, .ld none [] (.t 71), none, false, false, [71]⟩,
  ⟨some 73, .call (.c (.fn 21 [] [])) [.t 70, .t 72], none, false, false, [70, 72, 73]⟩])
 (.seq (.ops 15 false [⟨some 74, .mv (.t 7), none, false, false, []⟩,
  ⟨some 75, .fa 5 (.t 3), none, false, false, []⟩,
  ⟨some 76, .ld none [] (.t 75), none, false, false, [75]⟩,
  ⟨some 77, .call (.c (.fn 21 [] [])) [.t 74, .t 76], none, false, false, [74, 76, 77]⟩])
 (.seq (.ops 16 false [⟨some 78, .mv (.t 7), none, false, false, []⟩,
  ⟨some 79, .fa 6 (.t 3), none, false, false, []⟩,
  ⟨some 80, .ld none [] (.t 79), none, false, false, [79]⟩,
  ⟨some 81, .len (.t 80), none, false, false, [80]⟩,
  ⟨some 82, .rowView 1 [.t 81], none, false, false, [81]⟩,
  ⟨some 83, .call (.c (.fn 18 [] [])) [.t 78, .t 82], none, false, false, [78, 82, 83]⟩])
 (.seq (.seq (.ops 17 false [⟨some 84, .fa 6 (.t 3), none, false, false, []⟩,
  ⟨some 85, .ld none [] (.t 84), none, false, false, [84]⟩,
  ⟨some 86, .len (.t 85), none, false, false, []⟩,
  ⟨some 87, .mv (.c (.int .i64 0)), none, false, false, []⟩])
 (.block 2 (.loop [3, 7, 85, 86, 87] (.seq (.ops 18 false [⟨some 88, .bin .lss (.t 87) (.t 86), none, false, false, []⟩])
   (.seq (.cond (.t 88)
    (.skip)
    (.exit 2))
   (.seq (.block 3 (.seq (.ops 19 false [⟨some 89, .ia 7 [.int .i64 0, .int .i64 0, .int .i64 0, .int .i64 0, .int .i64 0, .int .i64 0, .view []] (.t 85) (.t 87), none, false, false, []⟩,
     ⟨some 90, .ld (some 7) [.int .i64 0, .int .i64 0, .int .i64 0, .int .i64 0, .int .i64 0, .int .i64 0, .view []] (.t 89), none, false, false, [89]⟩,
     ⟨some 11, .alloc [.int .i64 0, .int .i64 0, .int .i64 0, .int .i64 0, .int .i64 0, .int .i64 0, .nils], none, false, false, []⟩,
     ⟨none, .st 7 (.t 11) (.t 90), none, false, false, [90]⟩])
    (.seq (.ops 20 false [⟨some 91, .mv (.t 7), none, false, false, []⟩,
     ⟨some 92, .fa 0 (.t 11), none, false, false, []⟩,
     ⟨some 93, .ld none [] (.t 92), none, false, false, [92]⟩,
     ⟨some 94, .fa 1 (.t 11), none, false, false, []⟩,
     ⟨some 95, .ld none [] (.t 94), none, false, false, [94]⟩,
     ⟨some 96, .fa 2 (.t 11), none, false, false, []⟩,
     ⟨some 97, .ld none [] (.t 96), none, false, false, [96]⟩,
     ⟨some 98, .fa 3 (.t 11), none, false, false, []⟩,
     ⟨some 99, .ld none [] (.t 98), none, false, false, [98]⟩,
     ⟨some 100, .fa 4 (.t 11), none, false, false, []⟩,
     ⟨some 101, .ld none [] (.t 100), none, false, false, [100]⟩,
     ⟨some 102, .bin .add (.t 101) (.c (.int .i64 1)), none, false, false, [101]⟩,
     ⟨some 103, .fa 5 (.t 11), none, false, false, []⟩,
     ⟨some 104, .ld none [] (.t 103), none, false, false, [103]⟩,
     ⟨some 105, .rowView 1 [.t 93, .t 95, .t 97, .t 99, .t 102, .t 104], none, false, false, [93, 95, 97, 99, 102, 104]⟩,
     ⟨some 106, .call (.c (.fn 18 [] [])) [.t 91, .t 105], none, false, false, [91, 105, 106]⟩])
    (.ops 21 false [⟨some 107, .mv (.t 7), none, false, false, []⟩,
     ⟨some 108, .fa 6 (.t 11), none, false, false, [11]⟩,
     ⟨some 109, .ld none [] (.t 108), none, false, false, [108]⟩,
     ⟨some 110, .call (.c (.fn 20 [] [])) [.t 107, .t 109], none, false, false, [107, 109, 110]⟩]))))
   (.ops 22 false [⟨some 111, .bin .add (.t 87) (.c (.int .i64 1)), none, false, false, [87]⟩,
    ⟨some 87, .mv (.t 111), none, false, false, [111]⟩])))))))
 (.seq (.ops 23 false [⟨some 112, .mv (.t 7), none, false, false, []⟩,
  ⟨some 113, .fa 7 (.t 3), none, false, false, []⟩,
  ⟨some 114, .ld none [] (.t 113), none, false, false, [113]⟩,
  ⟨some 115, .len (.t 114), none, false, false, [114]⟩,
  ⟨some 116, .rowView 1 [.t 115], none, false, false, [115]⟩,
  ⟨some 117, .call (.c (.fn 18 [] [])) [.t 112, .t 116], none, false, false, [112, 116, 117]⟩])
 (.seq (.seq (.ops 24 false [⟨some 118, .fa 7 (.t 3), none, false, false, [3]⟩,
  ⟨some 119, .ld none [] (.t 118), none, false, false, [118]⟩,
  ⟨some 120, .len (.t 119), none, false, false, []⟩,
  ⟨some 121, .mv (.c (.int .i64 0)), none, false, false, []⟩])
 (.block 4 (.loop [7, 119, 120, 121] (.seq (.ops 25 false [⟨some 122, .bin .lss (.t 121) (.t 120), none, false, false, []⟩])
   (.seq (.cond (.t 122)
    (.skip)
    (.exit 4))
   (.seq (.block 5 (.seq (.ops 26 false [⟨some 123, .ia 3 [.int .i64 0, .int .i64 0, .view []] (.t 119) (.t 121), none, false, false, []⟩,
     ⟨some 124, .ld (some 3) [.int .i64 0, .int .i64 0, .view []] (.t 123), none, false, false, [123]⟩,
     ⟨some 13, .alloc [.int .i64 0, .int .i64 0, .nils], none, false, false, []⟩,
     ⟨none, .st 3 (.t 13) (.t 124), none, false, false, [124]⟩])
    (.seq (.ops 27 false [⟨some 125, .mv (.t 7), none, false, false, []⟩,
     ⟨some 126, .fa 0 (.t 13), none, false, false, []⟩,
     ⟨some 127, .ld none [] (.t 126), none, false, false, [126]⟩,
     ⟨some 128, .fa 1 (.t 13), none, false, false, []⟩,
     ⟨some 129, .ld none [] (.t 128), none, false, false, [128]⟩,
     ⟨some 130, .rowView 1 [.t 127, .t 129], none, false, false, [127, 129]⟩,
     ⟨some 131, .call (.c (.fn 18 [] [])) [.t 125, .t 130], none, false, false, [125, 130, 131]⟩])
    (.ops 28 false [⟨some 132, .mv (.t 7), none, false, false, []⟩,
     ⟨some 133, .fa 2 (.t 13), none, false, false, [13]⟩,
     ⟨some 134, .ld none [] (.t 133), none, false, false, [133]⟩,
     ⟨some 135, .call (.c (.fn 20 [] [])) [.t 132, .t 134], none, false, false, [132, 134, 135]⟩]))))
   (.ops 29 false [⟨some 136, .bin .add (.t 121) (.c (.int .i64 1)), none, false, false, [121]⟩,
    ⟨some 121, .mv (.t 136), none, false, false, [136]⟩])))))))
 (.seq (.ops 30 false [⟨some 137, .mv (.t 7), none, false, false, [7]⟩,
  ⟨some 138, .nilc (.t 137), none, false, false, [137]⟩,
  ⟨some 139, .fa 0 (.t 138), none, false, false, [138]⟩,
  ⟨some 140, .ld none [] (.t 139), none, false, false, [139]⟩,
  ⟨some 4, .mv (.t 140), none, false, false, [140]⟩,
  ⟨some 5, .mv (.c (.int .i64 0)), none, false, false, []⟩])
 (.ret)))))))))))))
def rs_snap_Encode : List IRes := [.t 4, .t 5]
theorem ok_snap_Encode : fnOk Tryz.prog 7 ic_snap_Encode rs_snap_Encode 141 = true := by kernel_rfl

/-- tallyman/tallymanref32.num -/
def ic_r32_num : ICode :=
 .seq (.ops 0 false [⟨some 4, .mv (.c (.nils)), none, false, false, [4]⟩])
 (.seq (.ops 1 false [⟨some 5, .mv (.t 0), none, false, false, [0]⟩,
  ⟨some 6, .mv (.t 1), none, false, false, [1]⟩,
  ⟨some 7, .cvw .u64 (.t 6), none, false, false, [6]⟩,
  ⟨some 8, .call (.c (.fn 64 [] [])) [.t 5, .t 7], none, false, false, [5, 7]⟩,
  ⟨some 4, .mv (.t 8), none, false, false, [8]⟩])
 (.ret))
def rs_r32_num : List IRes := [.t 4]
theorem ok_r32_num : fnOk Tryz.prog 23 ic_r32_num rs_r32_num 9 = true := by kernel_rfl

/-- tallyman/tallymanref32.list -/
def ic_r32_list : ICode :=
 .seq (.ops 0 false [⟨some 4, .mv (.c (.nils)), none, false, false, [4]⟩])
 (.seq (.ops 1 false [⟨some 6, .mv (.t 0), none, false, false, [0]⟩,
  ⟨some 7, .mv (.t 1), none, false, false, []⟩,
  ⟨some 8, .len (.t 7), none, false, false, [7]⟩,
  ⟨some 9, .call (.c (.fn 23 [] [])) [.t 6, .t 8], none, false, false, [6, 8]⟩,
  ⟨some 0, .mv (.t 9), none, false, false, [9]⟩])
 (.seq (.seq (.ops 2 false [⟨some 5, .mv (.c (.int .i64 0)), none, false, false, []⟩])
 (.block 0 (.loop [0, 1, 5] (.seq (.seq (.ops 3 false [⟨some 10, .mv (.t 5), none, false, false, []⟩,
    ⟨some 11, .mv (.t 1), none, false, false, []⟩,
    ⟨some 12, .len (.t 11), none, false, false, [11]⟩,
    ⟨some 13, .bin .lss (.t 10) (.t 12), none, false, false, [10, 12]⟩])
   (.cond (.t 13)
    (.skip)
    (.exit 0)))
   (.seq (.block 1 (.ops 5 false [⟨some 16, .mv (.t 0), none, false, false, [0]⟩,
     ⟨some 17, .mv (.t 1), none, false, false, []⟩,
     ⟨some 18, .mv (.t 5), none, false, false, []⟩,
     ⟨some 19, .ia 1 [.int .i64 0] (.t 17) (.t 18), none, false, false, [17, 18]⟩,
     ⟨some 20, .ld none [.int .i64 0] (.t 19), none, false, false, [19]⟩,
     ⟨some 21, .call (.c (.fn 23 [] [])) [.t 16, .t 20], none, false, false, [16, 20]⟩,
     ⟨some 0, .mv (.t 21), none, false, false, [21]⟩]))
   (.ops 4 false [⟨some 14, .mv (.t 5), none, false, false, [5]⟩,
    ⟨some 15, .bin .add (.t 14) (.c (.int .i64 1)), none, false, false, [14]⟩,
    ⟨some 5, .mv (.t 15), none, false, false, [15]⟩]))))))
 (.seq (.ops 6 false [⟨some 22, .mv (.t 0), none, false, false, [0]⟩,
  ⟨some 4, .mv (.t 22), none, false, false, [22]⟩])
 (.ret))))
def rs_r32_list : List IRes := [.t 4]
theorem ok_r32_list : fnOk Tryz.prog 25 ic_r32_list rs_r32_list 23 = true := by kernel_rfl

/-- tallyman/tallymanref32.point -/
def ic_r32_point : ICode :=
 .seq (.ops 0 false [⟨some 3, .box (.t 1), none, false, false, [1]⟩,
  ⟨some 4, .mv (.c (.nils)), none, false, false, [4]⟩])
 (.seq (.ops 1 false [⟨some 5, .mv (.t 0), none, false, false, [0]⟩,
  ⟨some 6, .fa 0 (.t 3), none, false, false, []⟩,
  ⟨some 7, .ld none [] (.t 6), none, false, false, [6]⟩,
  ⟨some 8, .call (.c (.fn 65 [] [])) [.t 7], none, false, false, [7]⟩,
  ⟨some 9, .call (.c (.fn 64 [] [])) [.t 5, .t 8], none, false, false, [5, 8]⟩,
  ⟨some 0, .mv (.t 9), none, false, false, [9]⟩])
 (.seq (.ops 2 false [⟨some 10, .mv (.t 0), none, false, false, [0]⟩,
  ⟨some 11, .fa 1 (.t 3), none, false, false, [3]⟩,
  ⟨some 12, .ld none [] (.t 11), none, false, false, [11]⟩,
  ⟨some 13, .call (.c (.fn 65 [] [])) [.t 12], none, false, false, [12]⟩,
  ⟨some 14, .call (.c (.fn 64 [] [])) [.t 10, .t 13], none, false, false, [10, 13]⟩,
  ⟨some 4, .mv (.t 14), none, false, false, [14]⟩])
 (.ret)))
def rs_r32_point : List IRes := [.t 4]
theorem ok_r32_point : fnOk Tryz.prog 63 ic_r32_point rs_r32_point 15 = true := by kernel_rfl

/-- tallyman/tallymanref32.hands -/
def ic_r32_hands : ICode :=
 .seq (.ops 0 false [⟨some 4, .mv (.c (.nils)), none, false, false, [4]⟩])
 (.seq (.ops 1 false [⟨some 7, .mv (.t 0), none, false, false, [0]⟩,
  ⟨some 8, .mv (.t 1), none, false, false, []⟩,
  ⟨some 9, .len (.t 8), none, false, false, [8]⟩,
  ⟨some 10, .call (.c (.fn 23 [] [])) [.t 7, .t 9], none, false, false, [7, 9]⟩,
  ⟨some 0, .mv (.t 10), none, false, false, [10]⟩])
 (.seq (.seq (.ops 2 false [⟨some 5, .mv (.c (.int .i64 0)), none, false, false, []⟩])
 (.block 0 (.loop [0, 1, 5] (.seq (.seq (.ops 3 false [⟨some 11, .mv (.t 5), none, false, false, []⟩,
    ⟨some 12, .mv (.t 1), none, false, false, []⟩,
    ⟨some 13, .len (.t 12), none, false, false, [12]⟩,
    ⟨some 14, .bin .lss (.t 11) (.t 13), none, false, false, [11, 13]⟩])
   (.cond (.t 14)
    (.skip)
    (.exit 0)))
   (.seq (.block 1 (.seq (.ops 5 false [⟨some 17, .mv (.t 0), none, false, false, [0]⟩,
     ⟨some 18, .mv (.t 1), none, false, false, []⟩,
     ⟨some 19, .mv (.t 5), none, false, false, []⟩,
     ⟨some 20, .ia 3 [.int .i64 0, .int .u64 0, .bool false] (.t 18) (.t 19), none, false, false, [18, 19]⟩,
     ⟨some 21, .fa 0 (.t 20), none, false, false, [20]⟩,
     ⟨some 22, .ld none [.int .i64 0, .int .u64 0, .bool false] (.t 21), none, false, false, [21]⟩,
     ⟨some 23, .call (.c (.fn 23 [] [])) [.t 17, .t 22], none, false, false, [17, 22]⟩,
     ⟨some 0, .mv (.t 23), none, false, false, [23]⟩])
    (.seq (.ops 6 false [⟨some 24, .mv (.t 0), none, false, false, [0]⟩,
     ⟨some 25, .mv (.t 1), none, false, false, []⟩,
     ⟨some 26, .mv (.t 5), none, false, false, []⟩,
     ⟨some 27, .ia 3 [.int .i64 0, .int .u64 0, .bool false] (.t 25) (.t 26), none, false, false, [25, 26]⟩,
     ⟨some 28, .fa 1 (.t 27), none, false, false, [27]⟩,
     ⟨some 29, .ld none [.int .i64 0, .int .u64 0, .bool false] (.t 28), none, false, false, [28]⟩,
     ⟨some 30, .call (.c (.fn 64 [] [])) [.t 24, .t 29], none, false, false, [24, 29]⟩,
     ⟨some 0, .mv (.t 30), none, false, false, [30]⟩])
    (.seq (.ops 7 false [⟨some 6, .mv (.c (.int .i64 0)), none, false, false, []⟩])
    (.seq (.seq (.ops 8 false [⟨some 31, .mv (.t 1), none, false, false, []⟩,
     ⟨some 32, .mv (.t 5), none, false, false, []⟩,
     ⟨some 33, .ia 3 [.int .i64 0, .int .u64 0, .bool false] (.t 31) (.t 32), none, false, false, [31, 32]⟩,
     ⟨some 34, .fa 2 (.t 33), none, false, false, [33]⟩,
     ⟨some 35, .ld none [.int .i64 0, .int .u64 0, .bool false] (.t 34), none, false, false, [34]⟩])
    (.cond (.t 35)
     (.ops 9 false [⟨some 6, .mv (.c (.int .i64 1)), none, false, false, []⟩])
     (.skip)))
    (.ops 10 false [⟨some 36, .mv (.t 0), none, false, false, [0]⟩,
     ⟨some 37, .mv (.t 6), none, false, false, [6]⟩,
     ⟨some 38, .call (.c (.fn 23 [] [])) [.t 36, .t 37], none, false, false, [36, 37]⟩,
     ⟨some 0, .mv (.t 38), none, false, false, [38]⟩]))))))
   (.ops 4 false [⟨some 15, .mv (.t 5), none, false, false, [5]⟩,
    ⟨some 16, .bin .add (.t 15) (.c (.int .i64 1)), none, false, false, [15]⟩,
    ⟨some 5, .mv (.t 16), none, false, false, [16]⟩]))))))
 (.seq (.ops 11 false [⟨some 39, .mv (.t 0), none, false, false, [0]⟩,
  ⟨some 4, .mv (.t 39), none, false, false, [39]⟩])
 (.ret))))
def rs_r32_hands : List IRes := [.t 4]
theorem ok_r32_hands : fnOk Tryz.prog 26 ic_r32_hands rs_r32_hands 40 = true := by kernel_rfl

/-- tallyman/tallymanref32.rules -/
def ic_r32_rules : ICode :=
 .seq (.ops 0 false [⟨some 1, .box (.t 0), none, false, false, [0]⟩,
  ⟨some 2, .mv (.c (.nils)), none, false, false, [2]⟩])
 (.seq (.ops 1 false [⟨some 3, .mv (.c (.nils)), none, false, false, []⟩])
 (.seq (.ops 2 false [⟨some 7, .fa 0 (.t 1), none, false, false, []⟩,
  ⟨some 8, .ld none [] (.t 7), none, false, false, [7]⟩,
  ⟨some 9, .fa 1 (.t 1), none, false, false, []⟩,
  ⟨some 10, .ld none [] (.t 9), none, false, false, [9]⟩,
  ⟨some 11, .fa 2 (.t 1), none, false, false, []⟩,
  ⟨some 12, .ld none [] (.t 11), none, false, false, [11]⟩,
  ⟨some 13, .fa 3 (.t 1), none, false, false, []⟩,
  ⟨some 14, .ld none [] (.t 13), none, false, false, [13]⟩,
  ⟨some 15, .fa 4 (.t 1), none, false, false, []⟩,
  ⟨some 16, .ld none [] (.t 15), none, false, false, [15]⟩,
  ⟨some 17, .fa 5 (.t 1), none, false, false, []⟩,
  ⟨some 18, .ld none [] (.t 17), none, false, false, [17]⟩,
  ⟨some 19, .fa 6 (.t 1), none, false, false, []⟩,
  ⟨some 20, .ld none [] (.t 19), none, false, false, [19]⟩,
  ⟨some 21, .fa 7 (.t 1), none, false, false, []⟩,
  ⟨some 22, .ld none [] (.t 21), none, false, false, [21]⟩,
  ⟨some 23, .len (.t 22), none, false, false, [22]⟩,
  ⟨some 24, .rowView 1 [.t 8, .t 10, .t 12, .t 14, .t 16, .t 18, .t 20, .t 23], none, false, false, [8, 10, 12, 14, 16, 18, 20, 23]⟩,
  ⟨some 4, .mv (.t 24), none, false, false, [24]⟩])
 (.seq (.seq (.ops 3 false [⟨some 5, .mv (.c (.int .i64 0)), none, false, false, []⟩])
 (.block 0 (.loop [1, 3, 4, 5] (.seq (.seq (.ops 4 false [⟨some 25, .mv (.t 5), none, false, false, []⟩,
    ⟨some 26, .mv (.t 4), none, false, false, []⟩,
    ⟨some 27, .len (.t 26), none, false, false, [26]⟩,
    ⟨some 28, .bin .lss (.t 25) (.t 27), none, false, false, [25, 27]⟩])
   (.cond (.t 28)
    (.skip)
    (.exit 0)))
   (.seq (.block 1 (.ops 6 false [⟨some 31, .mv (.t 3), none, false, false, [3]⟩,
     ⟨some 32, .mv (.t 4), none, false, false, []⟩,
     ⟨some 33, .mv (.t 5), none, false, false, []⟩,
     ⟨some 34, .ia 1 [.int .i64 0] (.t 32) (.t 33), none, false, false, [32, 33]⟩,
     ⟨some 35, .ld none [.int .i64 0] (.t 34), none, false, false, [34]⟩,
     ⟨some 36, .call (.c (.fn 23 [] [])) [.t 31, .t 35], none, false, false, [31, 35]⟩,
     ⟨some 3, .mv (.t 36), none, false, false, [36]⟩]))
   (.ops 5 false [⟨some 29, .mv (.t 5), none, false, false, [5]⟩,
    ⟨some 30, .bin .add (.t 29) (.c (.int .i64 1)), none, false, false, [29]⟩,
    ⟨some 5, .mv (.t 30), none, false, false, [30]⟩]))))))
 (.seq (.seq (.ops 7 false [⟨some 6, .mv (.c (.int .i64 0)), none, false, false, []⟩])
 (.block 2 (.loop [1, 3, 6] (.seq (.seq (.ops 8 false [⟨some 37, .mv (.t 6), none, false, false, []⟩,
    ⟨some 38, .fa 7 (.t 1), none, false, false, []⟩,
    ⟨some 39, .ld none [] (.t 38), none, false, false, [38]⟩,
    ⟨some 40, .len (.t 39), none, false, false, [39]⟩,
    ⟨some 41, .bin .lss (.t 37) (.t 40), none, false, false, [37, 40]⟩])
   (.cond (.t 41)
    (.skip)
    (.exit 2)))
   (.seq (.block 3 (.seq (.ops 10 false [⟨some 44, .mv (.t 3), none, false, false, [3]⟩,
     ⟨some 45, .fa 7 (.t 1), none, false, false, []⟩,
     ⟨some 46, .ld none [] (.t 45), none, false, false, [45]⟩,
     ⟨some 47, .mv (.t 6), none, false, false, []⟩,
     ⟨some 48, .ia 5 [.int .i64 0, .int .i64 0, .int .i64 0, .int .i64 0, .int .i64 0] (.t 46) (.t 47), none, false, false, [46, 47]⟩,
     ⟨some 49, .fa 0 (.t 48), none, false, false, [48]⟩,
     ⟨some 50, .ld none [.int .i64 0, .int .i64 0, .int .i64 0, .int .i64 0, .int .i64 0] (.t 49), none, false, false, [49]⟩,
     ⟨some 51, .call (.c (.fn 23 [] [])) [.t 44, .t 50], none, false, false, [44, 50]⟩,
     ⟨some 3, .mv (.t 51), none, false, false, [51]⟩])
    (.seq (.ops 11 false [⟨some 52, .mv (.t 3), none, false, false, [3]⟩,
     ⟨some 53, .fa 7 (.t 1), none, false, false, []⟩,
     ⟨some 54, .ld none [] (.t 53), none, false, false, [53]⟩,
     ⟨some 55, .mv (.t 6), none, false, false, []⟩,
     ⟨some 56, .ia 5 [.int .i64 0, .int .i64 0, .int .i64 0, .int .i64 0, .int .i64 0] (.t 54) (.t 55), none, false, false, [54, 55]⟩,
     ⟨some 57, .fa 1 (.t 56), none, false, false, [56]⟩,
     ⟨some 58, .ld (some 2) [.int .i64 0, .int .i64 0, .int .i64 0, .int .i64 0, .int .i64 0] (.t 57), none, false, false, [57]⟩,
     ⟨some 59, .call (.c (.fn 63 [] [])) [.t 52, .t 58], none, false, false, [52, 58]⟩,
     ⟨some 3, .mv (.t 59), none, false, false, [59]⟩])
    (.ops 12 false [⟨some 60, .mv (.t 3), none, false, false, [3]⟩,
     ⟨some 61, .fa 7 (.t 1), none, false, false, []⟩,
     ⟨some 62, .ld none [] (.t 61), none, false, false, [61]⟩,
     ⟨some 63, .mv (.t 6), none, false, false, []⟩,
     ⟨some 64, .ia 5 [.int .i64 0, .int .i64 0, .int .i64 0, .int .i64 0, .int .i64 0] (.t 62) (.t 63), none, false, false, [62, 63]⟩,
     ⟨some 65, .fa 3 (.t 64), none, false, false, [64]⟩,
     ⟨some 66, .ld (some 2) [.int .i64 0, .int .i64 0, .int .i64 0, .int .i64 0, .int .i64 0] (.t 65), none, false, false, [65]⟩,
     ⟨some 67, .call (.c (.fn 63 [] [])) [.t 60, .t 66], none, false, false, [60, 66]⟩,
     ⟨some 3, .mv (.t 67), none, false, false, [67]⟩]))))
   (.ops 9 false [⟨some 42, .mv (.t 6), none, false, false, [6]⟩,
    ⟨some 43, .bin .add (.t 42) (.c (.int .i64 1)), none, false, false, [42]⟩,
    ⟨some 6, .mv (.t 43), none, false, false, [43]⟩]))))))
 (.seq (.ops 13 false [⟨some 68, .mv (.t 3), none, false, false, [3]⟩,
  ⟨some 2, .mv (.t 68), none, false, false, [68]⟩])
 (.ret))))))
def rs_r32_rules : List IRes := [.t 2]
theorem ok_r32_rules : fnOk Tryz.prog 22 ic_r32_rules rs_r32_rules 69 = true := by kernel_rfl

/-- tallyman/tallymanref32.Encode -/
def ic_r32_Encode : ICode :=
 .seq (.ops 0 false [⟨some 2, .box (.t 0), none, false, false, [0]⟩,
  ⟨some 3, .box (.t 1), none, false, false, [1]⟩,
  ⟨some 4, .mv (.c (.nils)), none, false, false, [4]⟩,
  ⟨some 5, .mv (.c (.int .i64 0)), none, false, false, [5]⟩])
 (.seq (.seq (.ops 1 false [⟨some 13, .ld (some 8) [] (.t 2), none, false, false, []⟩,
  ⟨some 14, .ld (some 8) [] (.t 3), none, false, false, []⟩,
  ⟨some 15, .call (.c (.fn 14 [] [])) [.t 13, .t 14], none, false, false, [13, 14]⟩,
  ⟨some 6, .mv (.t 15), none, false, false, [15]⟩])
 (.seq (.ops 2 false [⟨some 16, .mv (.t 6), none, false, false, []⟩,
  ⟨some 17, .bin .neq (.t 16) (.c (.int .i64 0)), none, false, false, [16]⟩])
 (.cond (.t 17)
  (.seq (.ops 3 false [⟨some 18, .mv (.t 6), none, false, false, [6]⟩,
   ⟨some 4, .mv (.c (.nils)), none, false, false, []⟩,
   ⟨some 5, .mv (.t 18), none, false, false, [18]⟩])
  (.ret))
  (.skip))))
 (.seq (.ops 4 false [⟨some 19, .ld (some 8) [] (.t 2), none, false, false, [2]⟩,
  ⟨some 20, .call (.c (.fn 22 [] [])) [.t 19], none, false, false, [19]⟩,
  ⟨some 7, .mv (.t 20), none, false, false, [20]⟩])
 (.seq (.ops 5 false [⟨some 21, .mv (.t 7), none, false, false, [7]⟩,
  ⟨some 22, .fa 0 (.t 3), none, false, false, []⟩,
  ⟨some 23, .ld none [] (.t 22), none, false, false, [22]⟩,
  ⟨some 24, .call (.c (.fn 23 [] [])) [.t 21, .t 23], none, false, false, [21, 23]⟩,
  ⟨some 7, .mv (.t 24), none, false, false, [24]⟩])
 (.seq (.ops 6 false [⟨some 25, .mv (.t 7), none, false, false, [7]⟩,
  ⟨some 26, .fa 1 (.t 3), none, false, false, []⟩,
  ⟨some 27, .ld none [] (.t 26), none, false, false, [26]⟩,
  ⟨some 28, .call (.c (.fn 23 [] [])) [.t 25, .t 27], none, false, false, [25, 27]⟩,
  ⟨some 7, .mv (.t 28), none, false, false, [28]⟩])
 (.seq (.ops 7 false [⟨some 29, .mv (.t 7), none, false, false, [7]⟩,
  ⟨some 30, .fa 2 (.t 3), none, false, false, []⟩,
  ⟨some 31, .ld none [] (.t 30), none, false, false, [30]⟩,
  ⟨some 32, .call (.c (.fn 23 [] [])) [.t 29, .t 31], none, false, false, [29, 31]⟩,
  ⟨some 7, .mv (.t 32), none, false, false, [32]⟩])
 (.seq (.ops 8 false [⟨some 33, .mv (.t 7), none, false, false, [7]⟩,
  ⟨some 34, .fa 3 (.t 3), none, false, false, []⟩,
  ⟨some 35, .ld none [] (.t 34), none, false, false, [34]⟩,
  ⟨some 36, .len (.t 35), none, false, false, [35]⟩,
  ⟨some 37, .call (.c (.fn 23 [] [])) [.t 33, .t 36], none, false, false, [33, 36]⟩,
  ⟨some 7, .mv (.t 37), none, false, false, [37]⟩])
 (.seq (.seq (.ops 9 false [⟨some 8, .mv (.c (.int .i64 0)), none, false, false, []⟩])
 (.block 0 (.loop [3, 7, 8] (.seq (.seq (.ops 10 false [⟨some 38, .mv (.t 8), none, false, false, []⟩,
    ⟨some 39, .fa 3 (.t 3), none, false, false, []⟩,
    ⟨some 40, .ld none [] (.t 39), none, false, false, [39]⟩,
    ⟨some 41, .len (.t 40), none, false, false, [40]⟩,
    ⟨some 42, .bin .lss (.t 38) (.t 41), none, false, false, [38, 41]⟩])
   (.cond (.t 42)
    (.skip)
    (.exit 0)))
   (.seq (.block 1 (.seq (.ops 12 false [⟨some 45, .fa 3 (.t 3), none, false, false, []⟩,
     ⟨some 46, .ld none [] (.t 45), none, false, false, [45]⟩,
     ⟨some 47, .mv (.t 8), none, false, false, []⟩,
     ⟨some 48, .ia 14 [.int .i64 0, .int .i64 0, .int .u64 0, .int .u64 0, .int .i64 0, .int .i64 0, .int .i64 0, .int .i64 0, .view [], .int .i64 0, .int .i64 0, .int .i64 0, .int .i64 0, .view []] (.t 46) (.t 47), none, false, false, [46, 47]⟩,
     ⟨some 49, .ld (some 14) [.int .i64 0, .int .i64 0, .int .u64 0, .int .u64 0, .int .i64 0, .int .i64 0, .int .i64 0, .int .i64 0, .view [], .int .i64 0, .int .i64 0, .int .i64 0, .int .i64 0, .view []] (.t 48), none, false, false, [48]⟩,
     ⟨some 9, .alloc [.int .i64 0, .int .i64 0, .int .u64 0, .int .u64 0, .int .i64 0, .int .i64 0, .int .i64 0, .int .i64 0, .nils, .int .i64 0, .int .i64 0, .int .i64 0, .int .i64 0, .nils], none, false, false, []⟩,
     ⟨none, .st 14 (.t 9) (.t 49), none, false, false, [49]⟩])
    (.seq (.ops 13 false [⟨some 50, .mv (.t 7), none, false, false, [7]⟩,
     ⟨some 51, .fa 0 (.t 9), none, false, false, []⟩,
     ⟨some 52, .ld (some 9) [] (.t 51), none, false, false, [51]⟩,
     ⟨some 53, .call (.c (.fn 24 [] [])) [.t 50, .t 52], none, false, false, [50, 52]⟩,
     ⟨some 7, .mv (.t 53), none, false, false, [53]⟩])
    (.seq (.ops 14 false [⟨some 54, .mv (.t 7), none, false, false, [7]⟩,
     ⟨some 55, .fa 9 (.t 9), none, false, false, []⟩,
     ⟨some 56, .ld none [] (.t 55), none, false, false, [55]⟩,
     ⟨some 57, .call (.c (.fn 23 [] [])) [.t 54, .t 56], none, false, false, [54, 56]⟩,
     ⟨some 7, .mv (.t 57), none, false, false, [57]⟩])
    (.seq (.ops 15 false [⟨some 58, .mv (.t 7), none, false, false, [7]⟩,
     ⟨some 59, .fa 10 (.t 9), none, false, false, []⟩,
     ⟨some 60, .ld none [] (.t 59), none, false, false, [59]⟩,
     ⟨some 61, .call (.c (.fn 23 [] [])) [.t 58, .t 60], none, false, false, [58, 60]⟩,
     ⟨some 7, .mv (.t 61), none, false, false, [61]⟩])
    (.seq (.ops 16 false [⟨some 62, .mv (.t 7), none, false, false, [7]⟩,
     ⟨some 63, .fa 11 (.t 9), none, false, false, []⟩,
     ⟨some 64, .ld none [] (.t 63), none, false, false, [63]⟩,
     ⟨some 65, .call (.c (.fn 23 [] [])) [.t 62, .t 64], none, false, false, [62, 64]⟩,
     ⟨some 7, .mv (.t 65), none, false, false, [65]⟩])
    (.seq (.ops 17 false [⟨some 66, .mv (.t 7), none, false, false, [7]⟩,
     ⟨some 67, .fa 12 (.t 9), none, false, false, []⟩,
     ⟨some 68, .ld none [] (.t 67), none, false, false, [67]⟩,
     ⟨some 69, .call (.c (.fn 23 [] [])) [.t 66, .t 68], none, false, false, [66, 68]⟩,
     ⟨some 7, .mv (.t 69), none, false, false, [69]⟩])
    (.ops 18 false [⟨some 70, .mv (.t 7), none, false, false, [7]⟩,
     ⟨some 71, .fa 13 (.t 9), none, false, false, [9]⟩,
     ⟨some 72, .ld none [] (.t 71), none, false, false, [71]⟩,
     ⟨some 73, .call (.c (.fn 25 [] [])) [.t 70, .t 72], none, false, false, [70, 72]⟩,
     ⟨some 7, .mv (.t 73), none, false, false, [73]⟩]))))))))
   (.ops 11 false [⟨some 43, .mv (.t 8), none, false, false, [8]⟩,
    ⟨some 44, .bin .add (.t 43) (.c (.int .i64 1)), none, false, false, [43]⟩,
    ⟨some 8, .mv (.t 44), none, false, false, [44]⟩]))))))
 (.seq (.ops 19 false [⟨some 74, .mv (.t 7), none, false, false, [7]⟩,
  ⟨some 75, .fa 4 (.t 3), none, false, false, []⟩,
  ⟨some 76, .ld none [] (.t 75), none, false, false, [75]⟩,
  ⟨some 77, .call (.c (.fn 26 [] [])) [.t 74, .t 76], none, false, false, [74, 76]⟩,
  ⟨some 7, .mv (.t 77), none, false, false, [77]⟩])
 (.seq (.ops 20 false [⟨some 78, .mv (.t 7), none, false, false, [7]⟩,
  ⟨some 79, .fa 5 (.t 3), none, false, false, []⟩,
  ⟨some 80, .ld none [] (.t 79), none, false, false, [79]⟩,
  ⟨some 81, .call (.c (.fn 26 [] [])) [.t 78, .t 80], none, false, false, [78, 80]⟩,
  ⟨some 7, .mv (.t 81), none, false, false, [81]⟩])
 (.seq (.ops 21 false [⟨some 82, .mv (.t 7), none, false, false, [7]⟩,
  ⟨some 83, .fa 6 (.t 3), none, false, false, []⟩,
  ⟨some 84, .ld none [] (.t 83), none, false, false, [83]⟩,
  ⟨some 85, .len (.t 84), none, false, false, [84]⟩,
  ⟨some 86, .call (.c (.fn 23 [] [])) [.t 82, .t 85], none, false, false, [82, 85]⟩,
  ⟨some 7, .mv (.t 86), none, false, false, [86]⟩])
 (.seq (.seq (.ops 22 false [⟨some 10, .mv (.c (.int .i64 0)), none, false, false, []⟩])
 (.block 2 (.loop [3, 7, 10] (.seq (.seq (.ops 23 false [⟨some 87, .mv (.t 10), none, false, false, []⟩,
    ⟨some 88, .fa 6 (.t 3), none, false, false, []⟩,
    ⟨some 89, .ld none [] (.t 88), none, false, false, [88]⟩,
    ⟨some 90, .len (.t 89), none, false, false, [89]⟩,
    ⟨some 91, .bin .lss (.t 87) (.t 90), none, false, false, [87, 90]⟩])
   (.cond (.t 91)
    (.skip)
    (.exit 2)))
   (.seq (.block 3 (.seq (.ops 25 false [⟨some 94, .fa 6 (.t 3), none, false, false, []⟩,
     ⟨some 95, .ld none [] (.t 94), none, false, false, [94]⟩,
     ⟨some 96, .mv (.t 10), none, false, false, []⟩,
     ⟨some 97, .ia 7 [.int .i64 0, .int .i64 0, .int .i64 0, .int .i64 0, .int .i64 0, .int .i64 0, .view []] (.t 95) (.t 96), none, false, false, [95, 96]⟩,
     ⟨some 98, .ld (some 7) [.int .i64 0, .int .i64 0, .int .i64 0, .int .i64 0, .int .i64 0, .int .i64 0, .view []] (.t 97), none, false, false, [97]⟩,
     ⟨some 11, .alloc [.int .i64 0, .int .i64 0, .int .i64 0, .int .i64 0, .int .i64 0, .int .i64 0, .nils], none, false, false, []⟩,
     ⟨none, .st 7 (.t 11) (.t 98), none, false, false, [98]⟩])
    (.seq (.ops 26 false [⟨some 99, .mv (.t 7), none, false, false, [7]⟩,
     ⟨some 100, .fa 0 (.t 11), none, false, false, []⟩,
     ⟨some 101, .ld none [] (.t 100), none, false, false, [100]⟩,
     ⟨some 102, .call (.c (.fn 23 [] [])) [.t 99, .t 101], none, false, false, [99, 101]⟩,
     ⟨some 7, .mv (.t 102), none, false, false, [102]⟩])
    (.seq (.ops 27 false [⟨some 103, .mv (.t 7), none, false, false, [7]⟩,
     ⟨some 104, .fa 1 (.t 11), none, false, false, []⟩,
     ⟨some 105, .ld none [] (.t 104), none, false, false, [104]⟩,
     ⟨some 106, .call (.c (.fn 23 [] [])) [.t 103, .t 105], none, false, false, [103, 105]⟩,
     ⟨some 7, .mv (.t 106), none, false, false, [106]⟩])
    (.seq (.ops 28 false [⟨some 107, .mv (.t 7), none, false, false, [7]⟩,
     ⟨some 108, .fa 2 (.t 11), none, false, false, []⟩,
     ⟨some 109, .ld none [] (.t 108), none, false, false, [108]⟩,
     ⟨some 110, .call (.c (.fn 23 [] [])) [.t 107, .t 109], none, false, false, [107, 109]⟩,
     ⟨some 7, .mv (.t 110), none, false, false, [110]⟩])
    (.seq (.ops 29 false [⟨some 111, .mv (.t 7), none, false, false, [7]⟩,
     ⟨some 112, .fa 3 (.t 11), none, false, false, []⟩,
     ⟨some 113, .ld none [] (.t 112), none, false, false, [112]⟩,
     ⟨some 114, .call (.c (.fn 23 [] [])) [.t 111, .t 113], none, false, false, [111, 113]⟩,
     ⟨some 7, .mv (.t 114), none, false, false, [114]⟩])
    (.seq (.ops 30 false [⟨some 115, .mv (.t 7), none, false, false, [7]⟩,
     ⟨some 116, .fa 4 (.t 11), none, false, false, []⟩,
     ⟨some 117, .ld none [] (.t 116), none, false, false, [116]⟩,
     ⟨some 118, .bin .add (.t 117) (.c (.int .i64 1)), none, false, false, [117]⟩,
     ⟨some 119, .call (.c (.fn 23 [] [])) [.t 115, .t 118], none, false, false, [115, 118]⟩,
     ⟨some 7, .mv (.t 119), none, false, false, [119]⟩])
    (.seq (.ops 31 false [⟨some 120, .mv (.t 7), none, false, false, [7]⟩,
     ⟨some 121, .fa 5 (.t 11), none, false, false, []⟩,
     ⟨some 122, .ld none [] (.t 121), none, false, false, [121]⟩,
     ⟨some 123, .call (.c (.fn 23 [] [])) [.t 120, .t 122], none, false, false, [120, 122]⟩,
     ⟨some 7, .mv (.t 123), none, false, false, [123]⟩])
    (.ops 32 false [⟨some 124, .mv (.t 7), none, false, false, [7]⟩,
     ⟨some 125, .fa 6 (.t 11), none, false, false, [11]⟩,
     ⟨some 126, .ld none [] (.t 125), none, false, false, [125]⟩,
     ⟨some 127, .call (.c (.fn 25 [] [])) [.t 124, .t 126], none, false, false, [124, 126]⟩,
     ⟨some 7, .mv (.t 127), none, false, false, [127]⟩])))))))))
   (.ops 24 false [⟨some 92, .mv (.t 10), none, false, false, [10]⟩,
    ⟨some 93, .bin .add (.t 92) (.c (.int .i64 1)), none, false, false, [92]⟩,
    ⟨some 10, .mv (.t 93), none, false, false, [93]⟩]))))))
 (.seq (.ops 33 false [⟨some 128, .mv (.t 7), none, false, false, [7]⟩,
  ⟨some 129, .fa 7 (.t 3), none, false, false, []⟩,
  ⟨some 130, .ld none [] (.t 129), none, false, false, [129]⟩,
  ⟨some 131, .len (.t 130), none, false, false, [130]⟩,
  ⟨some 132, .call (.c (.fn 23 [] [])) [.t 128, .t 131], none, false, false, [128, 131]⟩,
  ⟨some 7, .mv (.t 132), none, false, false, [132]⟩])
 (.seq (.seq (.ops 34 false [⟨some 12, .mv (.c (.int .i64 0)), none, false, false, []⟩])
 (.block 4 (.loop [3, 7, 12] (.seq (.seq (.ops 35 false [⟨some 133, .mv (.t 12), none, false, false, []⟩,
    ⟨some 134, .fa 7 (.t 3), none, false, false, []⟩,
    ⟨some 135, .ld none [] (.t 134), none, false, false, [134]⟩,
    ⟨some 136, .len (.t 135), none, false, false, [135]⟩,
    ⟨some 137, .bin .lss (.t 133) (.t 136), none, false, false, [133, 136]⟩])
   (.cond (.t 137)
    (.skip)
    (.exit 4)))
   (.seq (.block 5 (.seq (.ops 37 false [⟨some 140, .mv (.t 7), none, false, false, [7]⟩,
     ⟨some 141, .fa 7 (.t 3), none, false, false, []⟩,
     ⟨some 142, .ld none [] (.t 141), none, false, false, [141]⟩,
     ⟨some 143, .mv (.t 12), none, false, false, []⟩,
     ⟨some 144, .ia 3 [.int .i64 0, .int .i64 0, .view []] (.t 142) (.t 143), none, false, false, [142, 143]⟩,
     ⟨some 145, .fa 0 (.t 144), none, false, false, [144]⟩,
     ⟨some 146, .ld none [.int .i64 0, .int .i64 0, .view []] (.t 145), none, false, false, [145]⟩,
     ⟨some 147, .call (.c (.fn 23 [] [])) [.t 140, .t 146], none, false, false, [140, 146]⟩,
     ⟨some 7, .mv (.t 147), none, false, false, [147]⟩])
    (.seq (.ops 38 false [⟨some 148, .mv (.t 7), none, false, false, [7]⟩,
     ⟨some 149, .fa 7 (.t 3), none, false, false, []⟩,
     ⟨some 150, .ld none [] (.t 149), none, false, false, [149]⟩,
     ⟨some 151, .mv (.t 12), none, false, false, []⟩,
     ⟨some 152, .ia 3 [.int .i64 0, .int .i64 0, .view []] (.t 150) (.t 151), none, false, false, [150, 151]⟩,
     ⟨some 153, .fa 1 (.t 152), none, false, false, [152]⟩,
     ⟨some 154, .ld none [.int .i64 0, .int .i64 0, .view []] (.t 153), none, false, false, [153]⟩,
     ⟨some 155, .call (.c (.fn 23 [] [])) [.t 148, .t 154], none, false, false, [148, 154]⟩,
     ⟨some 7, .mv (.t 155), none, false, false, [155]⟩])
    (.ops 39 false [⟨some 156, .mv (.t 7), none, false, false, [7]⟩,
     ⟨some 157, .fa 7 (.t 3), none, false, false, []⟩,
     ⟨some 158, .ld none [] (.t 157), none, false, false, [157]⟩,
     ⟨some 159, .mv (.t 12), none, false, false, []⟩,
     ⟨some 160, .ia 3 [.int .i64 0, .int .i64 0, .view []] (.t 158) (.t 159), none, false, false, [158, 159]⟩,
     ⟨some 161, .fa 2 (.t 160), none, false, false, [160]⟩,
     ⟨some 162, .ld none [.int .i64 0, .int .i64 0, .view []] (.t 161), none, false, false, [161]⟩,
     ⟨some 163, .call (.c (.fn 25 [] [])) [.t 156, .t 162], none, false, false, [156, 162]⟩,
     ⟨some 7, .mv (.t 163), none, false, false, [163]⟩]))))
   (.ops 36 false [⟨some 138, .mv (.t 12), none, false, false, [12]⟩,
    ⟨some 139, .bin .add (.t 138) (.c (.int .i64 1)), none, false, false, [138]⟩,
    ⟨some 12, .mv (.t 139), none, false, false, [139]⟩]))))))
 (.seq (.ops 40 false [⟨some 164, .mv (.t 7), none, false, false, [7]⟩,
  ⟨some 4, .mv (.t 164), none, false, false, [164]⟩,
  ⟨some 5, .mv (.c (.int .i64 0)), none, false, false, []⟩])
 (.ret)))))))))))))))
def rs_r32_Encode : List IRes := [.t 4, .t 5]
theorem ok_r32_Encode : fnOk Tryz.prog 8 ic_r32_Encode rs_r32_Encode 165 = true := by kernel_rfl

end Go.Proofs.YtnckibgcjgeekaaGreat.Sx
