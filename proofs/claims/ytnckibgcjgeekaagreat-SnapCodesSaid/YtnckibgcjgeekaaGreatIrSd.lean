/- Functions of the seat in the small language. No conditions: a kit of our own. -/
import Derived.Test.YtnckibgcjgeekaaGreatProg
import Derived.Test.YtnckibgcjgeekaaGreatSx17
namespace Go.Proofs.YtnckibgcjgeekaaGreat.Sx
open Go Go.RowKit
set_option linter.unusedVariables false

/-- (*tallyman/snap.reader).fail -/
def ic_snap_reader_fail : ICode :=
 .seq (.ops 0 false [⟨some 4, .mv (.t 0), none, false, false, []⟩,
  ⟨some 5, .nilc (.t 4), none, false, false, [4]⟩,
  ⟨some 6, .fa 1 (.t 5), none, false, false, [5]⟩,
  ⟨some 7, .ld none [] (.t 6), none, false, false, [6]⟩,
  ⟨some 8, .bin .eql (.t 7) (.c (.int .i64 0)), none, false, false, [7]⟩])
 (.cond (.t 8)
  (.ops 1 false [⟨some 9, .mv (.t 0), none, false, false, []⟩,
   ⟨some 10, .mv (.t 0), none, false, false, [0]⟩,
   ⟨some 11, .mv (.t 1), none, false, false, [1]⟩,
   ⟨some 12, .nilc (.t 9), none, false, false, [9]⟩,
   ⟨some 13, .fa 0 (.t 12), none, false, false, [12]⟩,
   ⟨none, .st 1 (.t 13) (.c (.nils)), none, false, false, [13]⟩,
   ⟨some 14, .nilc (.t 10), none, false, false, [10]⟩,
   ⟨some 15, .fa 1 (.t 14), none, false, false, [14]⟩,
   ⟨none, .st 1 (.t 15) (.t 11), none, false, false, [11, 15]⟩])
  (.skip))
def rs_snap_reader_fail : List IRes := []
theorem ok_snap_reader_fail : fnOk Tryz.prog 38 ic_snap_reader_fail rs_snap_reader_fail 16 = true := by kernel_rfl

/-- (*tallyman/snap.reader).word -/
def ic_snap_reader_word : ICode :=
 .seq (.ops 0 false [⟨some 2, .mv (.c (.int .u64 0)), none, false, false, [2]⟩])
 (.seq (.seq (.ops 1 false [⟨some 6, .mv (.t 0), none, false, false, []⟩,
  ⟨some 7, .nilc (.t 6), none, false, false, [6]⟩,
  ⟨some 8, .fa 1 (.t 7), none, false, false, [7]⟩,
  ⟨some 9, .ld none [] (.t 8), none, false, false, [8]⟩,
  ⟨some 10, .bin .neq (.t 9) (.c (.int .i64 0)), none, false, false, [9]⟩])
 (.cond (.t 10)
  (.seq (.ops 2 false [⟨some 2, .mv (.c (.int .u64 0)), none, false, false, []⟩])
  (.ret))
  (.skip)))
 (.seq (.ops 3 false [⟨some 12, .mv (.t 0), none, false, false, []⟩,
  ⟨some 13, .nilc (.t 12), none, false, false, [12]⟩,
  ⟨some 14, .fa 0 (.t 13), none, false, false, [13]⟩,
  ⟨some 15, .ld none [] (.t 14), none, false, false, [14]⟩,
  ⟨some 16, .call (.c (.fn 126 [] [])) [.t 15], none, false, false, [15]⟩,
  ⟨some 11, .mv (.t 16), none, false, false, [16]⟩,
  ⟨some 17, .ext 0 (.t 11), none, false, false, []⟩,
  ⟨some 18, .ext 1 (.t 11), none, false, false, []⟩,
  ⟨some 19, .ext 2 (.t 11), none, false, false, [11]⟩,
  ⟨some 3, .mv (.t 17), none, false, false, [17]⟩,
  ⟨some 4, .mv (.t 18), none, false, false, [18]⟩,
  ⟨some 5, .mv (.t 19), none, false, false, [19]⟩])
 (.seq (.seq (.ops 4 false [⟨some 20, .mv (.t 5), none, false, false, []⟩,
  ⟨some 21, .bin .neq (.t 20) (.c (.int .i64 0)), none, false, false, [20]⟩])
 (.cond (.t 21)
  (.seq (.ops 5 false [⟨some 22, .mv (.t 0), none, false, false, [0]⟩,
   ⟨some 23, .mv (.t 5), none, false, false, [5]⟩,
   ⟨some 24, .call (.c (.fn 38 [] [])) [.t 22, .t 23], none, false, false, [22, 23, 24]⟩])
  (.seq (.ops 6 false [⟨some 2, .mv (.c (.int .u64 0)), none, false, false, []⟩])
  (.ret)))
  (.skip)))
 (.seq (.ops 7 false [⟨some 25, .mv (.t 0), none, false, false, [0]⟩,
  ⟨some 26, .mv (.t 4), none, false, false, [4]⟩,
  ⟨some 27, .nilc (.t 25), none, false, false, [25]⟩,
  ⟨some 28, .fa 0 (.t 27), none, false, false, [27]⟩,
  ⟨none, .st 1 (.t 28) (.t 26), none, false, false, [26, 28]⟩])
 (.seq (.ops 8 false [⟨some 29, .mv (.t 3), none, false, false, [3]⟩,
  ⟨some 2, .mv (.t 29), none, false, false, [29]⟩])
 (.ret))))))
def rs_snap_reader_word : List IRes := [.t 2]
theorem ok_snap_reader_word : fnOk Tryz.prog 71 ic_snap_reader_word rs_snap_reader_word 30 = true := by kernel_rfl

/-- (*tallyman/snap.reader).num -/
def ic_snap_reader_num : ICode :=
 .seq (.ops 0 false [⟨some 2, .mv (.c (.int .i64 0)), none, false, false, [2]⟩])
 (.seq (.ops 1 false [⟨some 4, .mv (.t 0), none, false, false, []⟩,
  ⟨some 5, .call (.c (.fn 71 [] [])) [.t 4], none, false, false, [4]⟩,
  ⟨some 3, .mv (.t 5), none, false, false, [5]⟩])
 (.seq (.seq (.ops 2 false [⟨some 6, .mv (.t 3), none, false, false, []⟩,
  ⟨some 7, .bin .gtr (.t 6) (.c (.int .u64 4294967295)), none, false, false, [6]⟩])
 (.cond (.t 7)
  (.seq (.ops 3 false [⟨some 8, .mv (.t 0), none, false, false, [0]⟩,
   ⟨some 9, .call (.c (.fn 38 [] [])) [.t 8, .c (.int .i64 2)], none, false, false, [8, 9]⟩])
  (.seq (.ops 4 false [⟨some 2, .mv (.c (.int .i64 0)), none, false, false, []⟩])
  (.ret)))
  (.skip)))
 (.seq (.ops 5 false [⟨some 10, .mv (.t 3), none, false, false, [3]⟩,
  ⟨some 11, .cvw .i64 (.t 10), none, false, false, [10]⟩,
  ⟨some 2, .mv (.t 11), none, false, false, [11]⟩])
 (.ret))))
def rs_snap_reader_num : List IRes := [.t 2]
theorem ok_snap_reader_num : fnOk Tryz.prog 67 ic_snap_reader_num rs_snap_reader_num 12 = true := by kernel_rfl

/-- (*tallyman/snap.reader).nums -/
def ic_snap_reader_nums : ICode :=
 .seq (.ops 0 false [⟨some 6, .mv (.t 1), none, false, false, [1]⟩,
  ⟨some 7, .len (.t 6), none, false, false, []⟩,
  ⟨some 8, .mv (.c (.int .i64 0)), none, false, false, []⟩])
 (.block 0 (.loop [0, 6, 7, 8] (.seq (.ops 1 false [⟨some 9, .bin .lss (.t 8) (.t 7), none, false, false, []⟩])
   (.seq (.cond (.t 9)
    (.skip)
    (.exit 0))
   (.seq (.block 1 (.seq (.ops 2 false [⟨some 10, .ia 1 [.nilp] (.t 6) (.t 8), none, false, false, []⟩,
     ⟨some 11, .ld none [.nilp] (.t 10), none, false, false, [10]⟩,
     ⟨some 5, .mv (.t 11), none, false, false, [11]⟩])
    (.ops 3 false [⟨some 12, .mv (.t 5), none, false, false, [5]⟩,
     ⟨some 13, .mv (.t 0), none, false, false, []⟩,
     ⟨some 14, .call (.c (.fn 67 [] [])) [.t 13], none, false, false, [13]⟩,
     ⟨some 15, .nilc (.t 12), none, false, false, [12]⟩,
     ⟨none, .st 1 (.t 15) (.t 14), none, false, false, [14, 15]⟩])))
   (.ops 4 false [⟨some 16, .bin .add (.t 8) (.c (.int .i64 1)), none, false, false, [8]⟩,
    ⟨some 8, .mv (.t 16), none, false, false, [16]⟩]))))))
def rs_snap_reader_nums : List IRes := []
theorem ok_snap_reader_nums : fnOk Tryz.prog 27 ic_snap_reader_nums rs_snap_reader_nums 17 = true := by kernel_rfl

/-- (*tallyman/snap.reader).point -/
def ic_snap_reader_point : ICode :=
 .seq (.ops 0 false [⟨some 2, .alloc [.int .i64 0, .int .i64 0], none, false, false, []⟩])
 (.seq (.ops 1 false [⟨some 4, .mv (.t 0), none, false, false, []⟩,
  ⟨some 5, .call (.c (.fn 67 [] [])) [.t 4], none, false, false, [4]⟩,
  ⟨some 6, .cvw .u64 (.t 5), none, false, false, [5]⟩,
  ⟨some 7, .call (.c (.fn 124 [] [])) [.t 6], none, false, false, [6]⟩,
  ⟨some 3, .mv (.t 7), none, false, false, [7]⟩])
 (.seq (.ops 2 false [⟨some 8, .mv (.t 3), none, false, false, [3]⟩,
  ⟨some 9, .mv (.t 0), none, false, false, [0]⟩,
  ⟨some 10, .call (.c (.fn 67 [] [])) [.t 9], none, false, false, [9]⟩,
  ⟨some 11, .cvw .u64 (.t 10), none, false, false, [10]⟩,
  ⟨some 12, .call (.c (.fn 124 [] [])) [.t 11], none, false, false, [11]⟩,
  ⟨some 13, .build [.int .i64 0, .int .i64 0] [(0, 1, .t 8), (1, 1, .t 12)], none, false, false, [8, 12]⟩,
  ⟨none, .st 2 (.t 2) (.t 13), none, false, false, [13]⟩])
 (.ret)))
def rs_snap_reader_point : List IRes := [.cell 2 (some 2)]
theorem ok_snap_reader_point : fnOk Tryz.prog 68 ic_snap_reader_point rs_snap_reader_point 14 = true := by kernel_rfl

/-- (*tallyman/snap.reader).spec -/
def ic_snap_reader_spec : ICode :=
 .seq (.ops 0 false [⟨some 2, .alloc [.int .i64 0, .int .i64 0, .int .u64 0, .int .u64 0, .int .i64 0, .int .i64 0, .int .i64 0, .int .i64 0, .nils], none, false, false, []⟩])
 (.seq (.seq (.ops 1 false [⟨some 6, .mv (.t 0), none, false, false, []⟩,
  ⟨some 7, .nilc (.t 6), none, false, false, [6]⟩,
  ⟨some 8, .fa 1 (.t 7), none, false, false, [7]⟩,
  ⟨some 9, .ld none [] (.t 8), none, false, false, [8]⟩,
  ⟨some 10, .bin .neq (.t 9) (.c (.int .i64 0)), none, false, false, [9]⟩])
 (.cond (.t 10)
  (.seq (.ops 2 false [⟨some 11, .build [.int .i64 0, .int .i64 0, .int .u64 0, .int .u64 0, .int .i64 0, .int .i64 0, .int .i64 0, .int .i64 0, .nils] [], none, false, false, []⟩,
   ⟨none, .st 9 (.t 2) (.t 11), none, false, false, [11]⟩])
  (.ret))
  (.skip)))
 (.seq (.ops 3 false [⟨some 13, .mv (.t 0), none, false, false, []⟩,
  ⟨some 14, .nilc (.t 13), none, false, false, [13]⟩,
  ⟨some 15, .fa 0 (.t 14), none, false, false, [14]⟩,
  ⟨some 16, .ld none [] (.t 15), none, false, false, [15]⟩,
  ⟨some 17, .call (.c (.fn 125 [] [])) [.t 16], none, false, false, [16]⟩,
  ⟨some 12, .mv (.t 17), none, false, false, [17]⟩,
  ⟨some 18, .ext 0 (.t 12), none, false, false, []⟩,
  ⟨some 19, .ext 1 (.t 12), none, false, false, []⟩,
  ⟨some 20, .ext 2 (.t 12), none, false, false, [12]⟩,
  ⟨some 3, .alloc [.int .i64 0, .int .i64 0, .int .u64 0, .int .u64 0, .int .i64 0, .int .i64 0, .int .i64 0, .int .i64 0, .nils], none, false, false, []⟩,
  ⟨none, .st 9 (.t 3) (.t 18), none, false, false, [18]⟩,
  ⟨some 4, .mv (.t 19), none, false, false, [19]⟩,
  ⟨some 5, .mv (.t 20), none, false, false, [20]⟩])
 (.seq (.seq (.ops 4 false [⟨some 21, .mv (.t 5), none, false, false, []⟩,
  ⟨some 22, .bin .neq (.t 21) (.c (.int .i64 0)), none, false, false, [21]⟩])
 (.cond (.t 22)
  (.seq (.ops 5 false [⟨some 23, .mv (.t 0), none, false, false, [0]⟩,
   ⟨some 24, .mv (.t 5), none, false, false, [5]⟩,
   ⟨some 25, .call (.c (.fn 38 [] [])) [.t 23, .t 24], none, false, false, [23, 24, 25]⟩])
  (.seq (.ops 6 false [⟨some 26, .build [.int .i64 0, .int .i64 0, .int .u64 0, .int .u64 0, .int .i64 0, .int .i64 0, .int .i64 0, .int .i64 0, .nils] [], none, false, false, []⟩,
   ⟨none, .st 9 (.t 2) (.t 26), none, false, false, [26]⟩])
  (.ret)))
  (.skip)))
 (.seq (.ops 7 false [⟨some 27, .mv (.t 0), none, false, false, [0]⟩,
  ⟨some 28, .mv (.t 4), none, false, false, [4]⟩,
  ⟨some 29, .nilc (.t 27), none, false, false, [27]⟩,
  ⟨some 30, .fa 0 (.t 29), none, false, false, [29]⟩,
  ⟨none, .st 1 (.t 30) (.t 28), none, false, false, [28, 30]⟩])
 (.seq (.ops 8 false [⟨some 31, .ld (some 9) [] (.t 3), none, false, false, [3]⟩,
  ⟨none, .st 9 (.t 2) (.t 31), none, false, false, [31]⟩])
 (.ret))))))
def rs_snap_reader_spec : List IRes := [.cell 2 (some 9)]
theorem ok_snap_reader_spec : fnOk Tryz.prog 69 ic_snap_reader_spec rs_snap_reader_spec 32 = true := by kernel_rfl

/-- (*tallyman/snap.reader).hand -/
def ic_snap_reader_hand : ICode :=
 .seq (.ops 0 false [⟨some 2, .alloc [.int .i64 0, .int .u64 0, .bool false], none, false, false, []⟩])
 (.seq (.ops 1 false [⟨some 5, .mv (.t 0), none, false, false, []⟩,
  ⟨some 6, .call (.c (.fn 67 [] [])) [.t 5], none, false, false, [5]⟩,
  ⟨some 7, .build [.int .i64 0, .int .u64 0, .bool false] [(0, 1, .t 6)], none, false, false, [6]⟩,
  ⟨some 3, .alloc [.int .i64 0, .int .u64 0, .bool false], none, false, false, []⟩,
  ⟨none, .st 3 (.t 3) (.t 7), none, false, false, [7]⟩])
 (.seq (.ops 2 false [⟨some 8, .mv (.t 0), none, false, false, []⟩,
  ⟨some 9, .call (.c (.fn 71 [] [])) [.t 8], none, false, false, [8]⟩,
  ⟨some 10, .fa 1 (.t 3), none, false, false, []⟩,
  ⟨none, .st 1 (.t 10) (.t 9), none, false, false, [9, 10]⟩])
 (.seq (.ops 3 false [⟨some 11, .mv (.t 0), none, false, false, []⟩,
  ⟨some 12, .call (.c (.fn 67 [] [])) [.t 11], none, false, false, [11]⟩,
  ⟨some 4, .mv (.t 12), none, false, false, [12]⟩])
 (.seq (.seq (.ops 4 false [⟨some 13, .mv (.t 4), none, false, false, []⟩,
  ⟨some 14, .bin .gtr (.t 13) (.c (.int .i64 1)), none, false, false, [13]⟩])
 (.cond (.t 14)
  (.ops 5 false [⟨some 15, .mv (.t 0), none, false, false, [0]⟩,
   ⟨some 16, .call (.c (.fn 38 [] [])) [.t 15, .c (.int .i64 3)], none, false, false, [15, 16]⟩])
  (.skip)))
 (.seq (.ops 6 false [⟨some 17, .mv (.t 4), none, false, false, [4]⟩,
  ⟨some 18, .bin .eql (.t 17) (.c (.int .i64 1)), none, false, false, [17]⟩,
  ⟨some 19, .fa 2 (.t 3), none, false, false, []⟩,
  ⟨none, .st 1 (.t 19) (.t 18), none, false, false, [18, 19]⟩])
 (.seq (.ops 7 false [⟨some 20, .ld (some 3) [] (.t 3), none, false, false, [3]⟩,
  ⟨none, .st 3 (.t 2) (.t 20), none, false, false, [20]⟩])
 (.ret)))))))
def rs_snap_reader_hand : List IRes := [.cell 2 (some 3)]
theorem ok_snap_reader_hand : fnOk Tryz.prog 33 ic_snap_reader_hand rs_snap_reader_hand 21 = true := by kernel_rfl

/-- (*tallyman/snap.reader).aisle -/
def ic_snap_reader_aisle : ICode :=
 .seq (.ops 0 false [⟨some 2, .alloc [.int .i64 0, .int .i64 0, .int .i64 0, .int .i64 0, .int .i64 0], none, false, false, []⟩])
 (.seq (.ops 1 false [⟨some 4, .mv (.t 0), none, false, false, []⟩,
  ⟨some 5, .call (.c (.fn 67 [] [])) [.t 4], none, false, false, [4]⟩,
  ⟨some 6, .build [.int .i64 0, .int .i64 0, .int .i64 0, .int .i64 0, .int .i64 0] [(0, 1, .t 5)], none, false, false, [5]⟩,
  ⟨some 3, .alloc [.int .i64 0, .int .i64 0, .int .i64 0, .int .i64 0, .int .i64 0], none, false, false, []⟩,
  ⟨none, .st 5 (.t 3) (.t 6), none, false, false, [6]⟩])
 (.seq (.ops 2 false [⟨some 7, .mv (.t 0), none, false, false, []⟩,
  ⟨some 8, .call (.c (.fn 68 [] [])) [.t 7], none, false, false, [7]⟩,
  ⟨some 9, .fa 1 (.t 3), none, false, false, []⟩,
  ⟨none, .st 2 (.t 9) (.t 8), none, false, false, [8, 9]⟩])
 (.seq (.ops 3 false [⟨some 10, .mv (.t 0), none, false, false, [0]⟩,
  ⟨some 11, .call (.c (.fn 68 [] [])) [.t 10], none, false, false, [10]⟩,
  ⟨some 12, .fa 3 (.t 3), none, false, false, []⟩,
  ⟨none, .st 2 (.t 12) (.t 11), none, false, false, [11, 12]⟩])
 (.seq (.ops 4 false [⟨some 13, .ld (some 5) [] (.t 3), none, false, false, [3]⟩,
  ⟨none, .st 5 (.t 2) (.t 13), none, false, false, [13]⟩])
 (.ret)))))
def rs_snap_reader_aisle : List IRes := [.cell 2 (some 5)]
theorem ok_snap_reader_aisle : fnOk Tryz.prog 29 ic_snap_reader_aisle rs_snap_reader_aisle 14 = true := by kernel_rfl

/-- (*tallyman/snap.reader).task -/
def ic_snap_reader_task : ICode :=
 .seq (.ops 0 false [⟨some 2, .alloc [.int .i64 0, .int .i64 0, .int .u64 0, .int .u64 0, .int .i64 0, .int .i64 0, .int .i64 0, .int .i64 0, .nils, .int .i64 0, .int .i64 0, .int .i64 0, .int .i64 0, .nils], none, false, false, []⟩])
 (.seq (.ops 1 false [⟨some 4, .mv (.t 0), none, false, false, []⟩,
  ⟨some 5, .call (.c (.fn 69 [] [])) [.t 4], none, false, false, [4]⟩,
  ⟨some 6, .build [.int .i64 0, .int .i64 0, .int .u64 0, .int .u64 0, .int .i64 0, .int .i64 0, .int .i64 0, .int .i64 0, .nils, .int .i64 0, .int .i64 0, .int .i64 0, .int .i64 0, .nils] [(0, 9, .t 5)], none, false, false, [5]⟩,
  ⟨some 3, .alloc [.int .i64 0, .int .i64 0, .int .u64 0, .int .u64 0, .int .i64 0, .int .i64 0, .int .i64 0, .int .i64 0, .nils, .int .i64 0, .int .i64 0, .int .i64 0, .int .i64 0, .nils], none, false, false, []⟩,
  ⟨none, .st 14 (.t 3) (.t 6), none, false, false, [6]⟩])
 (.seq (.ops 2 false [⟨some 7, .mv (.t 0), none, false, false, []⟩,
  ⟨some 8, .fa 9 (.t 3), none, false, false, []⟩,
  ⟨some 9, .fa 10 (.t 3), none, false, false, []⟩,
  ⟨some 10, .fa 11 (.t 3), none, false, false, []⟩,
  ⟨some 11, .fa 12 (.t 3), none, false, false, []⟩,
  ⟨some 12, .rowView 1 [.t 8, .t 9, .t 10, .t 11], none, false, false, [8, 9, 10, 11]⟩,
  ⟨some 13, .call (.c (.fn 27 [] [])) [.t 7, .t 12], none, false, false, [7, 12, 13]⟩])
 (.seq (.ops 3 false [⟨some 14, .mv (.t 0), none, false, false, []⟩,
  ⟨some 15, .mv (.t 0), none, false, false, [0]⟩,
  ⟨some 16, .mkfn 67 [.t 15] [], none, false, false, [15]⟩,
  ⟨some 17, .call (.c (.fn 70 [] [])) [.t 14, .t 16], none, false, false, [14, 16]⟩,
  ⟨some 18, .fa 13 (.t 3), none, false, false, []⟩,
  ⟨none, .st 1 (.t 18) (.t 17), none, false, false, [17, 18]⟩])
 (.seq (.ops 4 false [⟨some 19, .ld (some 14) [] (.t 3), none, false, false, [3]⟩,
  ⟨none, .st 14 (.t 2) (.t 19), none, false, false, [19]⟩])
 (.ret)))))
def rs_snap_reader_task : List IRes := [.cell 2 (some 14)]
theorem ok_snap_reader_task : fnOk Tryz.prog 31 ic_snap_reader_task rs_snap_reader_task 20 = true := by kernel_rfl

/-- (*tallyman/snap.reader).lease -/
def ic_snap_reader_lease : ICode :=
 .seq (.ops 0 false [⟨some 2, .alloc [.int .i64 0, .int .i64 0, .int .i64 0, .int .i64 0, .int .i64 0, .int .i64 0, .nils], none, false, false, []⟩])
 (.seq (.ops 1 false [⟨some 3, .alloc [.int .i64 0, .int .i64 0, .int .i64 0, .int .i64 0, .int .i64 0, .int .i64 0, .nils], none, false, false, []⟩])
 (.seq (.ops 2 false [⟨some 4, .mv (.t 0), none, false, false, []⟩,
  ⟨some 5, .fa 0 (.t 3), none, false, false, []⟩,
  ⟨some 6, .fa 1 (.t 3), none, false, false, []⟩,
  ⟨some 7, .fa 2 (.t 3), none, false, false, []⟩,
  ⟨some 8, .fa 3 (.t 3), none, false, false, []⟩,
  ⟨some 9, .fa 4 (.t 3), none, false, false, []⟩,
  ⟨some 10, .fa 5 (.t 3), none, false, false, []⟩,
  ⟨some 11, .rowView 1 [.t 5, .t 6, .t 7, .t 8, .t 9, .t 10], none, false, false, [5, 6, 7, 8, 9, 10]⟩,
  ⟨some 12, .call (.c (.fn 27 [] [])) [.t 4, .t 11], none, false, false, [4, 11, 12]⟩])
 (.seq (.ops 3 false [⟨some 13, .fa 4 (.t 3), none, false, false, []⟩,
  ⟨some 14, .ld none [] (.t 13), none, false, false, [13]⟩,
  ⟨some 15, .bin .sub (.t 14) (.c (.int .i64 1)), none, false, false, [14]⟩,
  ⟨some 16, .fa 4 (.t 3), none, false, false, []⟩,
  ⟨none, .st 1 (.t 16) (.t 15), none, false, false, [15, 16]⟩])
 (.seq (.ops 4 false [⟨some 17, .mv (.t 0), none, false, false, []⟩,
  ⟨some 18, .mv (.t 0), none, false, false, [0]⟩,
  ⟨some 19, .mkfn 67 [.t 18] [], none, false, false, [18]⟩,
  ⟨some 20, .call (.c (.fn 70 [] [])) [.t 17, .t 19], none, false, false, [17, 19]⟩,
  ⟨some 21, .fa 6 (.t 3), none, false, false, []⟩,
  ⟨none, .st 1 (.t 21) (.t 20), none, false, false, [20, 21]⟩])
 (.seq (.ops 5 false [⟨some 22, .ld (some 7) [] (.t 3), none, false, false, [3]⟩,
  ⟨none, .st 7 (.t 2) (.t 22), none, false, false, [22]⟩])
 (.ret))))))
def rs_snap_reader_lease : List IRes := [.cell 2 (some 7)]
theorem ok_snap_reader_lease : fnOk Tryz.prog 35 ic_snap_reader_lease rs_snap_reader_lease 23 = true := by kernel_rfl

/-- (*tallyman/snap.reader).lock -/
def ic_snap_reader_lock : ICode :=
 .seq (.ops 0 false [⟨some 2, .alloc [.int .i64 0, .int .i64 0, .nils], none, false, false, []⟩])
 (.seq (.ops 1 false [⟨some 3, .alloc [.int .i64 0, .int .i64 0, .nils], none, false, false, []⟩])
 (.seq (.ops 2 false [⟨some 4, .mv (.t 0), none, false, false, []⟩,
  ⟨some 5, .fa 0 (.t 3), none, false, false, []⟩,
  ⟨some 6, .fa 1 (.t 3), none, false, false, []⟩,
  ⟨some 7, .rowView 1 [.t 5, .t 6], none, false, false, [5, 6]⟩,
  ⟨some 8, .call (.c (.fn 27 [] [])) [.t 4, .t 7], none, false, false, [4, 7, 8]⟩])
 (.seq (.ops 3 false [⟨some 9, .mv (.t 0), none, false, false, []⟩,
  ⟨some 10, .mv (.t 0), none, false, false, [0]⟩,
  ⟨some 11, .mkfn 67 [.t 10] [], none, false, false, [10]⟩,
  ⟨some 12, .call (.c (.fn 70 [] [])) [.t 9, .t 11], none, false, false, [9, 11]⟩,
  ⟨some 13, .fa 2 (.t 3), none, false, false, []⟩,
  ⟨none, .st 1 (.t 13) (.t 12), none, false, false, [12, 13]⟩])
 (.seq (.ops 4 false [⟨some 14, .ld (some 3) [] (.t 3), none, false, false, [3]⟩,
  ⟨none, .st 3 (.t 2) (.t 14), none, false, false, [14]⟩])
 (.ret)))))
def rs_snap_reader_lock : List IRes := [.cell 2 (some 3)]
theorem ok_snap_reader_lock : fnOk Tryz.prog 37 ic_snap_reader_lock rs_snap_reader_lock 15 = true := by kernel_rfl

/-- tallyman/snap.list(int) -/
def ic_snap_list_int : ICode :=
 .seq (.ops 0 false [⟨some 4, .mv (.c (.nils)), none, false, false, [4]⟩])
 (.back [0, 1, 5, 6] (.seq (.ops 1 false [⟨some 5, .mv (.c (.nils)), none, false, false, []⟩])
 (.seq (.ops 2 false [⟨some 7, .mv (.t 0), none, false, false, []⟩,
   ⟨some 8, .call (.c (.fn 67 [] [])) [.t 7], none, false, false, [7]⟩,
   ⟨some 6, .mv (.t 8), none, false, false, [8]⟩])
 (.seq (.seq (.ops 3 false [⟨some 9, .mv (.t 6), none, false, false, []⟩,
   ⟨some 10, .bin .gtr (.t 9) (.c (.int .i64 64)), none, false, false, [9]⟩])
  (.cond (.t 10)
   (.ops 4 false [⟨some 11, .mv (.t 0), none, false, false, []⟩,
    ⟨some 12, .call (.c (.fn 38 [] [])) [.t 11, .c (.int .i64 15)], none, false, false, [11, 12]⟩])
   (.skip)))
 (.label 0)))) 0
  (.seq (.seq (.ops 5 false [⟨some 13, .mv (.t 6), none, false, false, []⟩,
   ⟨some 14, .bin .gtr (.t 13) (.c (.int .i64 0)), none, false, false, [13]⟩,
   ⟨some 15, .mv (.t 14), none, false, false, [14]⟩,
   ⟨some 16, .mv (.t 0), (some (15, true)), true, false, []⟩,
   ⟨some 17, .nilc (.o 16), (some (15, true)), true, false, [16]⟩,
   ⟨some 18, .fa 1 (.o 17), (some (15, true)), true, false, [17]⟩,
   ⟨some 19, .ld none [] (.o 18), (some (15, true)), true, false, [18]⟩,
   ⟨some 20, .bin .eql (.o 19) (.c (.int .i64 0)), (some (15, true)), true, false, [19]⟩,
   ⟨some 21, .pick (.t 15) (.t 20) (.c (.bool false)), none, false, false, [15, 20]⟩])
  (.cond (.t 21)
   (.seq (.ops 6 false [⟨some 22, .mv (.t 5), none, false, false, [5]⟩,
    ⟨some 23, .mv (.t 1), none, false, false, []⟩,
    ⟨some 24, .call (.t 23) [], none, false, false, [23]⟩,
    ⟨some 25, .rowView 1 [.t 24], none, false, false, [24]⟩,
    ⟨some 26, .app 1 (.t 22) (.t 25), none, false, false, [22, 25]⟩,
    ⟨some 5, .mv (.t 26), none, false, false, [26]⟩])
   (.seq (.ops 7 false [⟨some 27, .mv (.t 6), none, false, false, [6]⟩,
    ⟨some 28, .bin .sub (.t 27) (.c (.int .i64 1)), none, false, false, [27]⟩,
    ⟨some 6, .mv (.t 28), none, false, false, [28]⟩])
   (.goto 0)))
   (.skip)))
  (.seq (.ops 8 false [⟨some 29, .mv (.t 5), none, false, false, [5]⟩,
   ⟨some 4, .mv (.t 29), none, false, false, [29]⟩])
  (.ret))))
def rs_snap_list_int : List IRes := [.t 4]
theorem ok_snap_list_int : fnOk Tryz.prog 70 ic_snap_list_int rs_snap_list_int 30 = true := by kernel_rfl

/-- tallyman/snap.list(tallyman/api.Aisle) -/
def ic_snap_list_api_Aisle : ICode :=
 .seq (.ops 0 false [⟨some 4, .mv (.c (.nils)), none, false, false, [4]⟩])
 (.back [0, 1, 5, 6] (.seq (.ops 1 false [⟨some 5, .mv (.c (.nils)), none, false, false, []⟩])
 (.seq (.ops 2 false [⟨some 7, .mv (.t 0), none, false, false, []⟩,
   ⟨some 8, .call (.c (.fn 67 [] [])) [.t 7], none, false, false, [7]⟩,
   ⟨some 6, .mv (.t 8), none, false, false, [8]⟩])
 (.seq (.seq (.ops 3 false [⟨some 9, .mv (.t 6), none, false, false, []⟩,
   ⟨some 10, .bin .gtr (.t 9) (.c (.int .i64 64)), none, false, false, [9]⟩])
  (.cond (.t 10)
   (.ops 4 false [⟨some 11, .mv (.t 0), none, false, false, []⟩,
    ⟨some 12, .call (.c (.fn 38 [] [])) [.t 11, .c (.int .i64 15)], none, false, false, [11, 12]⟩])
   (.skip)))
 (.label 0)))) 0
  (.seq (.seq (.ops 5 false [⟨some 13, .mv (.t 6), none, false, false, []⟩,
   ⟨some 14, .bin .gtr (.t 13) (.c (.int .i64 0)), none, false, false, [13]⟩,
   ⟨some 15, .mv (.t 14), none, false, false, [14]⟩,
   ⟨some 16, .mv (.t 0), (some (15, true)), true, false, []⟩,
   ⟨some 17, .nilc (.o 16), (some (15, true)), true, false, [16]⟩,
   ⟨some 18, .fa 1 (.o 17), (some (15, true)), true, false, [17]⟩,
   ⟨some 19, .ld none [] (.o 18), (some (15, true)), true, false, [18]⟩,
   ⟨some 20, .bin .eql (.o 19) (.c (.int .i64 0)), (some (15, true)), true, false, [19]⟩,
   ⟨some 21, .pick (.t 15) (.t 20) (.c (.bool false)), none, false, false, [15, 20]⟩])
  (.cond (.t 21)
   (.seq (.ops 6 false [⟨some 22, .mv (.t 5), none, false, false, [5]⟩,
    ⟨some 23, .mv (.t 1), none, false, false, []⟩,
    ⟨some 24, .call (.t 23) [], none, false, false, [23]⟩,
    ⟨some 25, .rowView 5 [.t 24], none, false, false, [24]⟩,
    ⟨some 26, .app 5 (.t 22) (.t 25), none, false, false, [22, 25]⟩,
    ⟨some 5, .mv (.t 26), none, false, false, [26]⟩])
   (.seq (.ops 7 false [⟨some 27, .mv (.t 6), none, false, false, [6]⟩,
    ⟨some 28, .bin .sub (.t 27) (.c (.int .i64 1)), none, false, false, [27]⟩,
    ⟨some 6, .mv (.t 28), none, false, false, [28]⟩])
   (.goto 0)))
   (.skip)))
  (.seq (.ops 8 false [⟨some 29, .mv (.t 5), none, false, false, [5]⟩,
   ⟨some 4, .mv (.t 29), none, false, false, [29]⟩])
  (.ret))))
def rs_snap_list_api_Aisle : List IRes := [.t 4]
theorem ok_snap_list_api_Aisle : fnOk Tryz.prog 28 ic_snap_list_api_Aisle rs_snap_list_api_Aisle 30 = true := by kernel_rfl

/-- tallyman/snap.list(tallyman/api.Task) -/
def ic_snap_list_api_Task : ICode :=
 .seq (.ops 0 false [⟨some 4, .mv (.c (.nils)), none, false, false, [4]⟩])
 (.back [0, 1, 5, 6] (.seq (.ops 1 false [⟨some 5, .mv (.c (.nils)), none, false, false, []⟩])
 (.seq (.ops 2 false [⟨some 7, .mv (.t 0), none, false, false, []⟩,
   ⟨some 8, .call (.c (.fn 67 [] [])) [.t 7], none, false, false, [7]⟩,
   ⟨some 6, .mv (.t 8), none, false, false, [8]⟩])
 (.seq (.seq (.ops 3 false [⟨some 9, .mv (.t 6), none, false, false, []⟩,
   ⟨some 10, .bin .gtr (.t 9) (.c (.int .i64 64)), none, false, false, [9]⟩])
  (.cond (.t 10)
   (.ops 4 false [⟨some 11, .mv (.t 0), none, false, false, []⟩,
    ⟨some 12, .call (.c (.fn 38 [] [])) [.t 11, .c (.int .i64 15)], none, false, false, [11, 12]⟩])
   (.skip)))
 (.label 0)))) 0
  (.seq (.seq (.ops 5 false [⟨some 13, .mv (.t 6), none, false, false, []⟩,
   ⟨some 14, .bin .gtr (.t 13) (.c (.int .i64 0)), none, false, false, [13]⟩,
   ⟨some 15, .mv (.t 14), none, false, false, [14]⟩,
   ⟨some 16, .mv (.t 0), (some (15, true)), true, false, []⟩,
   ⟨some 17, .nilc (.o 16), (some (15, true)), true, false, [16]⟩,
   ⟨some 18, .fa 1 (.o 17), (some (15, true)), true, false, [17]⟩,
   ⟨some 19, .ld none [] (.o 18), (some (15, true)), true, false, [18]⟩,
   ⟨some 20, .bin .eql (.o 19) (.c (.int .i64 0)), (some (15, true)), true, false, [19]⟩,
   ⟨some 21, .pick (.t 15) (.t 20) (.c (.bool false)), none, false, false, [15, 20]⟩])
  (.cond (.t 21)
   (.seq (.ops 6 false [⟨some 22, .mv (.t 5), none, false, false, [5]⟩,
    ⟨some 23, .mv (.t 1), none, false, false, []⟩,
    ⟨some 24, .call (.t 23) [], none, false, false, [23]⟩,
    ⟨some 25, .rowView 14 [.t 24], none, false, false, [24]⟩,
    ⟨some 26, .app 14 (.t 22) (.t 25), none, false, false, [22, 25]⟩,
    ⟨some 5, .mv (.t 26), none, false, false, [26]⟩])
   (.seq (.ops 7 false [⟨some 27, .mv (.t 6), none, false, false, [6]⟩,
    ⟨some 28, .bin .sub (.t 27) (.c (.int .i64 1)), none, false, false, [27]⟩,
    ⟨some 6, .mv (.t 28), none, false, false, [28]⟩])
   (.goto 0)))
   (.skip)))
  (.seq (.ops 8 false [⟨some 29, .mv (.t 5), none, false, false, [5]⟩,
   ⟨some 4, .mv (.t 29), none, false, false, [29]⟩])
  (.ret))))
def rs_snap_list_api_Task : List IRes := [.t 4]
theorem ok_snap_list_api_Task : fnOk Tryz.prog 30 ic_snap_list_api_Task rs_snap_list_api_Task 30 = true := by kernel_rfl

/-- tallyman/snap.list(tallyman/api.Hand) -/
def ic_snap_list_api_Hand : ICode :=
 .seq (.ops 0 false [⟨some 4, .mv (.c (.nils)), none, false, false, [4]⟩])
 (.back [0, 1, 5, 6] (.seq (.ops 1 false [⟨some 5, .mv (.c (.nils)), none, false, false, []⟩])
 (.seq (.ops 2 false [⟨some 7, .mv (.t 0), none, false, false, []⟩,
   ⟨some 8, .call (.c (.fn 67 [] [])) [.t 7], none, false, false, [7]⟩,
   ⟨some 6, .mv (.t 8), none, false, false, [8]⟩])
 (.seq (.seq (.ops 3 false [⟨some 9, .mv (.t 6), none, false, false, []⟩,
   ⟨some 10, .bin .gtr (.t 9) (.c (.int .i64 64)), none, false, false, [9]⟩])
  (.cond (.t 10)
   (.ops 4 false [⟨some 11, .mv (.t 0), none, false, false, []⟩,
    ⟨some 12, .call (.c (.fn 38 [] [])) [.t 11, .c (.int .i64 15)], none, false, false, [11, 12]⟩])
   (.skip)))
 (.label 0)))) 0
  (.seq (.seq (.ops 5 false [⟨some 13, .mv (.t 6), none, false, false, []⟩,
   ⟨some 14, .bin .gtr (.t 13) (.c (.int .i64 0)), none, false, false, [13]⟩,
   ⟨some 15, .mv (.t 14), none, false, false, [14]⟩,
   ⟨some 16, .mv (.t 0), (some (15, true)), true, false, []⟩,
   ⟨some 17, .nilc (.o 16), (some (15, true)), true, false, [16]⟩,
   ⟨some 18, .fa 1 (.o 17), (some (15, true)), true, false, [17]⟩,
   ⟨some 19, .ld none [] (.o 18), (some (15, true)), true, false, [18]⟩,
   ⟨some 20, .bin .eql (.o 19) (.c (.int .i64 0)), (some (15, true)), true, false, [19]⟩,
   ⟨some 21, .pick (.t 15) (.t 20) (.c (.bool false)), none, false, false, [15, 20]⟩])
  (.cond (.t 21)
   (.seq (.ops 6 false [⟨some 22, .mv (.t 5), none, false, false, [5]⟩,
    ⟨some 23, .mv (.t 1), none, false, false, []⟩,
    ⟨some 24, .call (.t 23) [], none, false, false, [23]⟩,
    ⟨some 25, .rowView 3 [.t 24], none, false, false, [24]⟩,
    ⟨some 26, .app 3 (.t 22) (.t 25), none, false, false, [22, 25]⟩,
    ⟨some 5, .mv (.t 26), none, false, false, [26]⟩])
   (.seq (.ops 7 false [⟨some 27, .mv (.t 6), none, false, false, [6]⟩,
    ⟨some 28, .bin .sub (.t 27) (.c (.int .i64 1)), none, false, false, [27]⟩,
    ⟨some 6, .mv (.t 28), none, false, false, [28]⟩])
   (.goto 0)))
   (.skip)))
  (.seq (.ops 8 false [⟨some 29, .mv (.t 5), none, false, false, [5]⟩,
   ⟨some 4, .mv (.t 29), none, false, false, [29]⟩])
  (.ret))))
def rs_snap_list_api_Hand : List IRes := [.t 4]
theorem ok_snap_list_api_Hand : fnOk Tryz.prog 32 ic_snap_list_api_Hand rs_snap_list_api_Hand 30 = true := by kernel_rfl

/-- tallyman/snap.list(tallyman/api.Lease) -/
def ic_snap_list_api_Lease : ICode :=
 .seq (.ops 0 false [⟨some 4, .mv (.c (.nils)), none, false, false, [4]⟩])
 (.back [0, 1, 5, 6] (.seq (.ops 1 false [⟨some 5, .mv (.c (.nils)), none, false, false, []⟩])
 (.seq (.ops 2 false [⟨some 7, .mv (.t 0), none, false, false, []⟩,
   ⟨some 8, .call (.c (.fn 67 [] [])) [.t 7], none, false, false, [7]⟩,
   ⟨some 6, .mv (.t 8), none, false, false, [8]⟩])
 (.seq (.seq (.ops 3 false [⟨some 9, .mv (.t 6), none, false, false, []⟩,
   ⟨some 10, .bin .gtr (.t 9) (.c (.int .i64 64)), none, false, false, [9]⟩])
  (.cond (.t 10)
   (.ops 4 false [⟨some 11, .mv (.t 0), none, false, false, []⟩,
    ⟨some 12, .call (.c (.fn 38 [] [])) [.t 11, .c (.int .i64 15)], none, false, false, [11, 12]⟩])
   (.skip)))
 (.label 0)))) 0
  (.seq (.seq (.ops 5 false [⟨some 13, .mv (.t 6), none, false, false, []⟩,
   ⟨some 14, .bin .gtr (.t 13) (.c (.int .i64 0)), none, false, false, [13]⟩,
   ⟨some 15, .mv (.t 14), none, false, false, [14]⟩,
   ⟨some 16, .mv (.t 0), (some (15, true)), true, false, []⟩,
   ⟨some 17, .nilc (.o 16), (some (15, true)), true, false, [16]⟩,
   ⟨some 18, .fa 1 (.o 17), (some (15, true)), true, false, [17]⟩,
   ⟨some 19, .ld none [] (.o 18), (some (15, true)), true, false, [18]⟩,
   ⟨some 20, .bin .eql (.o 19) (.c (.int .i64 0)), (some (15, true)), true, false, [19]⟩,
   ⟨some 21, .pick (.t 15) (.t 20) (.c (.bool false)), none, false, false, [15, 20]⟩])
  (.cond (.t 21)
   (.seq (.ops 6 false [⟨some 22, .mv (.t 5), none, false, false, [5]⟩,
    ⟨some 23, .mv (.t 1), none, false, false, []⟩,
    ⟨some 24, .call (.t 23) [], none, false, false, [23]⟩,
    ⟨some 25, .rowView 7 [.t 24], none, false, false, [24]⟩,
    ⟨some 26, .app 7 (.t 22) (.t 25), none, false, false, [22, 25]⟩,
    ⟨some 5, .mv (.t 26), none, false, false, [26]⟩])
   (.seq (.ops 7 false [⟨some 27, .mv (.t 6), none, false, false, [6]⟩,
    ⟨some 28, .bin .sub (.t 27) (.c (.int .i64 1)), none, false, false, [27]⟩,
    ⟨some 6, .mv (.t 28), none, false, false, [28]⟩])
   (.goto 0)))
   (.skip)))
  (.seq (.ops 8 false [⟨some 29, .mv (.t 5), none, false, false, [5]⟩,
   ⟨some 4, .mv (.t 29), none, false, false, [29]⟩])
  (.ret))))
def rs_snap_list_api_Lease : List IRes := [.t 4]
theorem ok_snap_list_api_Lease : fnOk Tryz.prog 34 ic_snap_list_api_Lease rs_snap_list_api_Lease 30 = true := by kernel_rfl

/-- tallyman/snap.list(tallyman/api.Lock) -/
def ic_snap_list_api_Lock : ICode :=
 .seq (.ops 0 false [⟨some 4, .mv (.c (.nils)), none, false, false, [4]⟩])
 (.back [0, 1, 5, 6] (.seq (.ops 1 false [⟨some 5, .mv (.c (.nils)), none, false, false, []⟩])
 (.seq (.ops 2 false [⟨some 7, .mv (.t 0), none, false, false, []⟩,
   ⟨some 8, .call (.c (.fn 67 [] [])) [.t 7], none, false, false, [7]⟩,
   ⟨some 6, .mv (.t 8), none, false, false, [8]⟩])
 (.seq (.seq (.ops 3 false [⟨some 9, .mv (.t 6), none, false, false, []⟩,
   ⟨some 10, .bin .gtr (.t 9) (.c (.int .i64 64)), none, false, false, [9]⟩])
  (.cond (.t 10)
   (.ops 4 false [⟨some 11, .mv (.t 0), none, false, false, []⟩,
    ⟨some 12, .call (.c (.fn 38 [] [])) [.t 11, .c (.int .i64 15)], none, false, false, [11, 12]⟩])
   (.skip)))
 (.label 0)))) 0
  (.seq (.seq (.ops 5 false [⟨some 13, .mv (.t 6), none, false, false, []⟩,
   ⟨some 14, .bin .gtr (.t 13) (.c (.int .i64 0)), none, false, false, [13]⟩,
   ⟨some 15, .mv (.t 14), none, false, false, [14]⟩,
   ⟨some 16, .mv (.t 0), (some (15, true)), true, false, []⟩,
   ⟨some 17, .nilc (.o 16), (some (15, true)), true, false, [16]⟩,
   ⟨some 18, .fa 1 (.o 17), (some (15, true)), true, false, [17]⟩,
   ⟨some 19, .ld none [] (.o 18), (some (15, true)), true, false, [18]⟩,
   ⟨some 20, .bin .eql (.o 19) (.c (.int .i64 0)), (some (15, true)), true, false, [19]⟩,
   ⟨some 21, .pick (.t 15) (.t 20) (.c (.bool false)), none, false, false, [15, 20]⟩])
  (.cond (.t 21)
   (.seq (.ops 6 false [⟨some 22, .mv (.t 5), none, false, false, [5]⟩,
    ⟨some 23, .mv (.t 1), none, false, false, []⟩,
    ⟨some 24, .call (.t 23) [], none, false, false, [23]⟩,
    ⟨some 25, .rowView 3 [.t 24], none, false, false, [24]⟩,
    ⟨some 26, .app 3 (.t 22) (.t 25), none, false, false, [22, 25]⟩,
    ⟨some 5, .mv (.t 26), none, false, false, [26]⟩])
   (.seq (.ops 7 false [⟨some 27, .mv (.t 6), none, false, false, [6]⟩,
    ⟨some 28, .bin .sub (.t 27) (.c (.int .i64 1)), none, false, false, [27]⟩,
    ⟨some 6, .mv (.t 28), none, false, false, [28]⟩])
   (.goto 0)))
   (.skip)))
  (.seq (.ops 8 false [⟨some 29, .mv (.t 5), none, false, false, [5]⟩,
   ⟨some 4, .mv (.t 29), none, false, false, [29]⟩])
  (.ret))))
def rs_snap_list_api_Lock : List IRes := [.t 4]
theorem ok_snap_list_api_Lock : fnOk Tryz.prog 36 ic_snap_list_api_Lock rs_snap_list_api_Lock 30 = true := by kernel_rfl

/-- tallyman/snap.Decode -/
def ic_snap_Decode : ICode :=
 .seq (.ops 0 false [⟨some 2, .alloc [.int .i64 0, .int .i64 0, .int .i64 0, .int .i64 0, .int .i64 0, .int .i64 0, .int .i64 0, .nils], none, false, false, []⟩,
  ⟨some 3, .alloc [.int .i64 0, .int .i64 0, .int .i64 0, .nils, .nils, .nils, .nils, .nils], none, false, false, []⟩,
  ⟨some 4, .mv (.c (.int .i64 0)), none, false, false, [4]⟩])
 (.seq (.ops 1 false [⟨some 8, .mv (.t 0), none, false, false, [0]⟩,
  ⟨some 9, .build [.nils, .int .i64 0] [(0, 1, .t 8)], none, false, false, [8]⟩,
  ⟨some 10, .box (.t 9), none, false, false, [9]⟩,
  ⟨some 5, .mv (.t 10), none, false, false, [10]⟩])
 (.seq (.ops 2 false [⟨some 6, .alloc [.int .i64 0, .int .i64 0, .int .i64 0, .int .i64 0, .int .i64 0, .int .i64 0, .int .i64 0, .nils], none, false, false, []⟩])
 (.seq (.ops 3 false [⟨some 7, .alloc [.int .i64 0, .int .i64 0, .int .i64 0, .nils, .nils, .nils, .nils, .nils], none, false, false, []⟩])
 (.seq (.ops 4 false [⟨some 11, .mv (.t 5), none, false, false, []⟩,
  ⟨some 12, .fa 0 (.t 6), none, false, false, []⟩,
  ⟨some 13, .fa 1 (.t 6), none, false, false, []⟩,
  ⟨some 14, .fa 2 (.t 6), none, false, false, []⟩,
  ⟨some 15, .fa 3 (.t 6), none, false, false, []⟩,
  ⟨some 16, .fa 4 (.t 6), none, false, false, []⟩,
  ⟨some 17, .fa 5 (.t 6), none, false, false, []⟩,
  ⟨some 18, .fa 6 (.t 6), none, false, false, []⟩,
  ⟨some 19, .rowView 1 [.t 12, .t 13, .t 14, .t 15, .t 16, .t 17, .t 18], none, false, false, [12, 13, 14, 15, 16, 17, 18]⟩,
  ⟨some 20, .call (.c (.fn 27 [] [])) [.t 11, .t 19], none, false, false, [11, 19, 20]⟩])
 (.seq (.ops 5 false [⟨some 21, .mv (.t 5), none, false, false, []⟩,
  ⟨some 22, .mv (.t 5), none, false, false, []⟩,
  ⟨some 23, .mkfn 29 [.t 22] [], none, false, false, [22]⟩,
  ⟨some 24, .call (.c (.fn 28 [] [])) [.t 21, .t 23], none, false, false, [21, 23]⟩,
  ⟨some 25, .fa 7 (.t 6), none, false, false, []⟩,
  ⟨none, .st 1 (.t 25) (.t 24), none, false, false, [24, 25]⟩])
 (.seq (.ops 6 false [⟨some 26, .mv (.t 5), none, false, false, []⟩,
  ⟨some 27, .fa 0 (.t 7), none, false, false, []⟩,
  ⟨some 28, .fa 1 (.t 7), none, false, false, []⟩,
  ⟨some 29, .fa 2 (.t 7), none, false, false, []⟩,
  ⟨some 30, .rowView 1 [.t 27, .t 28, .t 29], none, false, false, [27, 28, 29]⟩,
  ⟨some 31, .call (.c (.fn 27 [] [])) [.t 26, .t 30], none, false, false, [26, 30, 31]⟩])
 (.seq (.ops 7 false [⟨some 32, .mv (.t 5), none, false, false, []⟩,
  ⟨some 33, .mv (.t 5), none, false, false, []⟩,
  ⟨some 34, .mkfn 31 [.t 33] [], none, false, false, [33]⟩,
  ⟨some 35, .call (.c (.fn 30 [] [])) [.t 32, .t 34], none, false, false, [32, 34]⟩,
  ⟨some 36, .fa 3 (.t 7), none, false, false, []⟩,
  ⟨none, .st 1 (.t 36) (.t 35), none, false, false, [35, 36]⟩])
 (.seq (.ops 8 false [⟨some 37, .mv (.t 5), none, false, false, []⟩,
  ⟨some 38, .mv (.t 5), none, false, false, []⟩,
  ⟨some 39, .mkfn 33 [.t 38] [], none, false, false, [38]⟩,
  ⟨some 40, .call (.c (.fn 32 [] [])) [.t 37, .t 39], none, false, false, [37, 39]⟩,
  ⟨some 41, .mv (.t 5), none, false, false, []⟩,
  ⟨some 42, .mv (.t 5), none, false, false, []⟩,
  ⟨some 43, .mkfn 33 [.t 42] [], none, false, false, [42]⟩,
  ⟨some 44, .call (.c (.fn 32 [] [])) [.t 41, .t 43], none, false, false, [41, 43]⟩,
  ⟨some 45, .fa 4 (.t 7), none, false, false, []⟩,
  ⟨none, .st 1 (.t 45) (.t 40), none, false, false, [40, 45]⟩,
  ⟨some 46, .fa 5 (.t 7), none, false, false, []⟩,
  ⟨none, .st 1 (.t 46) (.t 44), none, false, false, [44, 46]⟩])
 (.seq (.ops 9 false [⟨some 47, .mv (.t 5), none, false, false, []⟩,
  ⟨some 48, .mv (.t 5), none, false, false, []⟩,
  ⟨some 49, .mkfn 35 [.t 48] [], none, false, false, [48]⟩,
  ⟨some 50, .call (.c (.fn 34 [] [])) [.t 47, .t 49], none, false, false, [47, 49]⟩,
  ⟨some 51, .fa 6 (.t 7), none, false, false, []⟩,
  ⟨none, .st 1 (.t 51) (.t 50), none, false, false, [50, 51]⟩])
 (.seq (.ops 10 false [⟨some 52, .mv (.t 5), none, false, false, []⟩,
  ⟨some 53, .mv (.t 5), none, false, false, []⟩,
  ⟨some 54, .mkfn 37 [.t 53] [], none, false, false, [53]⟩,
  ⟨some 55, .call (.c (.fn 36 [] [])) [.t 52, .t 54], none, false, false, [52, 54]⟩,
  ⟨some 56, .fa 7 (.t 7), none, false, false, []⟩,
  ⟨none, .st 1 (.t 56) (.t 55), none, false, false, [55, 56]⟩])
 (.seq (.seq (.ops 11 false [⟨some 57, .mv (.t 5), none, false, false, []⟩,
  ⟨some 58, .nilc (.t 57), none, false, false, [57]⟩,
  ⟨some 59, .fa 0 (.t 58), none, false, false, [58]⟩,
  ⟨some 60, .ld none [] (.t 59), none, false, false, [59]⟩,
  ⟨some 61, .len (.t 60), none, false, false, [60]⟩,
  ⟨some 62, .bin .gtr (.t 61) (.c (.int .i64 0)), none, false, false, [61]⟩])
 (.cond (.t 62)
  (.ops 12 false [⟨some 63, .mv (.t 5), none, false, false, []⟩,
   ⟨some 64, .call (.c (.fn 38 [] [])) [.t 63, .c (.int .i64 3)], none, false, false, [63, 64]⟩])
  (.skip)))
 (.seq (.seq (.ops 13 false [⟨some 65, .mv (.t 5), none, false, false, []⟩,
  ⟨some 66, .nilc (.t 65), none, false, false, [65]⟩,
  ⟨some 67, .fa 1 (.t 66), none, false, false, [66]⟩,
  ⟨some 68, .ld none [] (.t 67), none, false, false, [67]⟩,
  ⟨some 69, .bin .eql (.t 68) (.c (.int .i64 0)), none, false, false, [68]⟩])
 (.cond (.t 69)
  (.ops 14 false [⟨some 70, .mv (.t 5), none, false, false, []⟩,
   ⟨some 71, .ld (some 8) [] (.t 6), none, false, false, []⟩,
   ⟨some 72, .ld (some 8) [] (.t 7), none, false, false, []⟩,
   ⟨some 73, .call (.c (.fn 16 [] [])) [.t 71, .t 72], none, false, false, [71, 72]⟩,
   ⟨some 74, .nilc (.t 70), none, false, false, [70]⟩,
   ⟨some 75, .fa 1 (.t 74), none, false, false, [74]⟩,
   ⟨none, .st 1 (.t 75) (.t 73), none, false, false, [73, 75]⟩])
  (.skip)))
 (.seq (.seq (.ops 15 false [⟨some 76, .mv (.t 5), none, false, false, []⟩,
  ⟨some 77, .nilc (.t 76), none, false, false, [76]⟩,
  ⟨some 78, .fa 1 (.t 77), none, false, false, [77]⟩,
  ⟨some 79, .ld none [] (.t 78), none, false, false, [78]⟩,
  ⟨some 80, .bin .neq (.t 79) (.c (.int .i64 0)), none, false, false, [79]⟩])
 (.cond (.t 80)
  (.seq (.ops 16 true [⟨some 81, .build [.int .i64 0, .int .i64 0, .int .i64 0, .int .i64 0, .int .i64 0, .int .i64 0, .int .i64 0, .nils] [], none, false, false, []⟩,
   ⟨some 82, .build [.int .i64 0, .int .i64 0, .int .i64 0, .nils, .nils, .nils, .nils, .nils] [], none, false, false, []⟩,
   ⟨some 83, .mv (.t 5), none, false, false, [5]⟩,
   ⟨some 84, .nilc (.t 83), none, false, true, [83]⟩,
   ⟨some 85, .fa 1 (.t 84), none, false, true, [84]⟩,
   ⟨some 86, .ld none [] (.t 85), none, false, true, [85]⟩,
   ⟨none, .st 8 (.t 2) (.t 81), none, false, false, [81]⟩,
   ⟨none, .st 8 (.t 3) (.t 82), none, false, false, [82]⟩,
   ⟨some 4, .mv (.t 86), none, false, false, [86]⟩])
  (.ret))
  (.skip)))
 (.seq (.ops 17 true [⟨some 87, .ld (some 8) [] (.t 6), none, false, false, [6]⟩,
  ⟨some 88, .ld (some 8) [] (.t 7), none, false, true, [7]⟩,
  ⟨none, .st 8 (.t 2) (.t 87), none, false, false, [87]⟩,
  ⟨none, .st 8 (.t 3) (.t 88), none, false, false, [88]⟩,
  ⟨some 4, .mv (.c (.int .i64 0)), none, false, false, []⟩])
 (.ret)))))))))))))))
def rs_snap_Decode : List IRes := [.cell 2 (some 8), .cell 3 (some 8), .t 4]
theorem ok_snap_Decode : fnOk Tryz.prog 9 ic_snap_Decode rs_snap_Decode 89 = true := by kernel_rfl

/-- tallyman/tallymanref32.many -/
def ic_r32_many : ICode :=
 .seq (.ops 0 false [⟨some 1, .box (.t 0), none, false, false, [0]⟩,
  ⟨some 2, .alloc [.nils, .int .i64 0], none, false, false, []⟩,
  ⟨some 3, .mv (.c (.int .i64 0)), none, false, false, [3]⟩])
 (.seq (.ops 1 false [⟨some 7, .ld (some 2) [] (.t 1), none, false, false, [1]⟩,
  ⟨some 8, .call (.c (.fn 39 [] [])) [.t 7], none, false, false, [7]⟩,
  ⟨some 6, .mv (.t 8), none, false, false, [8]⟩,
  ⟨some 9, .ext 0 (.t 6), none, false, false, []⟩,
  ⟨some 10, .ext 1 (.t 6), none, false, false, [6]⟩,
  ⟨some 4, .alloc [.nils, .int .i64 0], none, false, false, []⟩,
  ⟨none, .st 2 (.t 4) (.t 9), none, false, false, [9]⟩,
  ⟨some 5, .mv (.t 10), none, false, false, [10]⟩])
 (.seq (.seq (.ops 2 false [⟨some 11, .fa 1 (.t 4), none, false, false, []⟩,
  ⟨some 12, .ld none [] (.t 11), none, false, false, [11]⟩,
  ⟨some 13, .bin .eql (.t 12) (.c (.int .i64 0)), none, false, false, [12]⟩,
  ⟨some 14, .mv (.t 13), none, false, false, [13]⟩,
  ⟨some 15, .mv (.t 5), (some (14, true)), true, false, []⟩,
  ⟨some 16, .bin .gtr (.o 15) (.c (.int .i64 64)), (some (14, true)), true, false, [15]⟩,
  ⟨some 17, .pick (.t 14) (.t 16) (.c (.bool false)), none, false, false, [14, 16]⟩])
 (.cond (.t 17)
  (.seq (.ops 3 false [⟨some 18, .build [.nils, .int .i64 0] [(1, 1, .c (.int .i64 15))], none, false, false, []⟩,
   ⟨none, .st 2 (.t 2) (.t 18), none, false, false, [18]⟩,
   ⟨some 3, .mv (.c (.int .i64 0)), none, false, false, []⟩])
  (.ret))
  (.skip)))
 (.seq (.ops 4 false [⟨some 19, .ld (some 2) [] (.t 4), none, false, false, [4]⟩,
  ⟨some 20, .mv (.t 5), none, false, false, [5]⟩,
  ⟨none, .st 2 (.t 2) (.t 19), none, false, false, [19]⟩,
  ⟨some 3, .mv (.t 20), none, false, false, [20]⟩])
 (.ret))))
def rs_r32_many : List IRes := [.cell 2 (some 2), .t 3]
theorem ok_r32_many : fnOk Tryz.prog 73 ic_r32_many rs_r32_many 21 = true := by kernel_rfl

/-- tallyman/tallymanref32.ints -/
def ic_r32_ints : ICode :=
 .seq (.ops 0 false [⟨some 1, .box (.t 0), none, false, false, [0]⟩,
  ⟨some 2, .alloc [.nils, .int .i64 0], none, false, false, []⟩,
  ⟨some 3, .mv (.c (.nils)), none, false, false, [3]⟩])
 (.seq (.ops 1 false [⟨some 4, .mv (.c (.nils)), none, false, false, []⟩])
 (.seq (.ops 2 false [⟨some 10, .ld (some 2) [] (.t 1), none, false, false, [1]⟩,
  ⟨some 11, .call (.c (.fn 73 [] [])) [.t 10], none, false, false, [10]⟩,
  ⟨some 9, .mv (.t 11), none, false, false, [11]⟩,
  ⟨some 12, .ext 0 (.t 9), none, false, false, []⟩,
  ⟨some 13, .ext 1 (.t 9), none, false, false, [9]⟩,
  ⟨some 5, .alloc [.nils, .int .i64 0], none, false, false, []⟩,
  ⟨none, .st 2 (.t 5) (.t 12), none, false, false, [12]⟩,
  ⟨some 6, .mv (.t 13), none, false, false, [13]⟩])
 (.seq (.seq (.ops 3 false [⟨some 7, .mv (.c (.int .i64 0)), none, false, false, []⟩])
 (.block 0 (.loop [2, 4, 5, 6, 7] (.seq (.seq (.ops 4 false [⟨some 14, .mv (.t 7), none, false, false, []⟩,
    ⟨some 15, .mv (.t 6), none, false, false, []⟩,
    ⟨some 16, .bin .lss (.t 14) (.t 15), none, false, false, [14, 15]⟩,
    ⟨some 17, .mv (.t 16), none, false, false, [16]⟩,
    ⟨some 18, .fa 1 (.t 5), (some (17, true)), true, false, []⟩,
    ⟨some 19, .ld none [] (.o 18), (some (17, true)), true, false, [18]⟩,
    ⟨some 20, .bin .eql (.o 19) (.c (.int .i64 0)), (some (17, true)), true, false, [19]⟩,
    ⟨some 21, .pick (.t 17) (.t 20) (.c (.bool false)), none, false, false, [17, 20]⟩])
   (.cond (.t 21)
    (.skip)
    (.exit 0)))
   (.seq (.block 1 (.seq (.ops 6 false [⟨some 8, .mv (.c (.int .i64 0)), none, false, false, [8]⟩])
    (.seq (.ops 7 false [⟨some 25, .ld (some 2) [] (.t 5), none, false, false, []⟩,
     ⟨some 26, .call (.c (.fn 39 [] [])) [.t 25], none, false, false, [25]⟩,
     ⟨some 24, .mv (.t 26), none, false, false, [26]⟩,
     ⟨some 27, .ext 0 (.t 24), none, false, false, []⟩,
     ⟨some 28, .ext 1 (.t 24), none, false, false, [24]⟩,
     ⟨none, .st 2 (.t 5) (.t 27), none, false, false, [27]⟩,
     ⟨some 8, .mv (.t 28), none, false, false, [28]⟩])
    (.ops 8 false [⟨some 29, .mv (.t 4), none, false, false, [4]⟩,
     ⟨some 30, .mv (.t 8), none, false, false, [8]⟩,
     ⟨some 31, .rowView 1 [.t 30], none, false, false, [30]⟩,
     ⟨some 32, .app 1 (.t 29) (.t 31), none, false, false, [29, 31]⟩,
     ⟨some 4, .mv (.t 32), none, false, false, [32]⟩]))))
   (.ops 5 false [⟨some 22, .mv (.t 7), none, false, false, [7]⟩,
    ⟨some 23, .bin .add (.t 22) (.c (.int .i64 1)), none, false, false, [22]⟩,
    ⟨some 7, .mv (.t 23), none, false, false, [23]⟩]))))))
 (.seq (.ops 9 false [⟨some 33, .ld (some 2) [] (.t 5), none, false, false, [5]⟩,
  ⟨some 34, .mv (.t 4), none, false, false, [4]⟩,
  ⟨none, .st 2 (.t 2) (.t 33), none, false, false, [33]⟩,
  ⟨some 3, .mv (.t 34), none, false, false, [34]⟩])
 (.ret)))))
def rs_r32_ints : List IRes := [.cell 2 (some 2), .t 3]
theorem ok_r32_ints : fnOk Tryz.prog 76 ic_r32_ints rs_r32_ints 35 = true := by kernel_rfl

/-- tallyman/tallymanref32.handful -/
def ic_r32_handful : ICode :=
 .seq (.ops 0 false [⟨some 1, .box (.t 0), none, false, false, [0]⟩,
  ⟨some 2, .alloc [.nils, .int .i64 0], none, false, false, []⟩,
  ⟨some 3, .mv (.c (.nils)), none, false, false, [3]⟩])
 (.seq (.ops 1 false [⟨some 4, .mv (.c (.nils)), none, false, false, []⟩])
 (.seq (.ops 2 false [⟨some 11, .ld (some 2) [] (.t 1), none, false, false, [1]⟩,
  ⟨some 12, .call (.c (.fn 73 [] [])) [.t 11], none, false, false, [11]⟩,
  ⟨some 10, .mv (.t 12), none, false, false, [12]⟩,
  ⟨some 13, .ext 0 (.t 10), none, false, false, []⟩,
  ⟨some 14, .ext 1 (.t 10), none, false, false, [10]⟩,
  ⟨some 5, .alloc [.nils, .int .i64 0], none, false, false, []⟩,
  ⟨none, .st 2 (.t 5) (.t 13), none, false, false, [13]⟩,
  ⟨some 6, .mv (.t 14), none, false, false, [14]⟩])
 (.seq (.seq (.ops 3 false [⟨some 7, .mv (.c (.int .i64 0)), none, false, false, []⟩])
 (.block 0 (.loop [2, 4, 5, 6, 7] (.seq (.seq (.ops 4 false [⟨some 15, .mv (.t 7), none, false, false, []⟩,
    ⟨some 16, .mv (.t 6), none, false, false, []⟩,
    ⟨some 17, .bin .lss (.t 15) (.t 16), none, false, false, [15, 16]⟩,
    ⟨some 18, .mv (.t 17), none, false, false, [17]⟩,
    ⟨some 19, .fa 1 (.t 5), (some (18, true)), true, false, []⟩,
    ⟨some 20, .ld none [] (.o 19), (some (18, true)), true, false, [19]⟩,
    ⟨some 21, .bin .eql (.o 20) (.c (.int .i64 0)), (some (18, true)), true, false, [20]⟩,
    ⟨some 22, .pick (.t 18) (.t 21) (.c (.bool false)), none, false, false, [18, 21]⟩])
   (.cond (.t 22)
    (.skip)
    (.exit 0)))
   (.seq (.block 1 (.seq (.ops 6 false [⟨some 8, .alloc [.int .i64 0, .int .u64 0, .bool false], none, false, false, []⟩])
    (.seq (.ops 7 false [⟨some 9, .mv (.c (.int .i64 0)), none, false, false, [9]⟩])
    (.seq (.ops 8 false [⟨some 26, .ld (some 2) [] (.t 5), none, false, false, []⟩,
     ⟨some 27, .call (.c (.fn 39 [] [])) [.t 26], none, false, false, [26]⟩,
     ⟨some 25, .mv (.t 27), none, false, false, [27]⟩,
     ⟨some 28, .ext 0 (.t 25), none, false, false, []⟩,
     ⟨some 29, .ext 1 (.t 25), none, false, false, [25]⟩,
     ⟨none, .st 2 (.t 5) (.t 28), none, false, false, [28]⟩,
     ⟨some 30, .fa 0 (.t 8), none, false, false, []⟩,
     ⟨none, .st 1 (.t 30) (.t 29), none, false, false, [29, 30]⟩])
    (.seq (.ops 9 false [⟨some 32, .ld (some 2) [] (.t 5), none, false, false, []⟩,
     ⟨some 33, .call (.c (.fn 72 [] [])) [.t 32], none, false, false, [32]⟩,
     ⟨some 31, .mv (.t 33), none, false, false, [33]⟩,
     ⟨some 34, .ext 0 (.t 31), none, false, false, []⟩,
     ⟨some 35, .ext 1 (.t 31), none, false, false, [31]⟩,
     ⟨none, .st 2 (.t 5) (.t 34), none, false, false, [34]⟩,
     ⟨some 36, .fa 1 (.t 8), none, false, false, []⟩,
     ⟨none, .st 1 (.t 36) (.t 35), none, false, false, [35, 36]⟩])
    (.seq (.ops 10 false [⟨some 38, .ld (some 2) [] (.t 5), none, false, false, []⟩,
     ⟨some 39, .call (.c (.fn 39 [] [])) [.t 38], none, false, false, [38]⟩,
     ⟨some 37, .mv (.t 39), none, false, false, [39]⟩,
     ⟨some 40, .ext 0 (.t 37), none, false, false, []⟩,
     ⟨some 41, .ext 1 (.t 37), none, false, false, [37]⟩,
     ⟨none, .st 2 (.t 5) (.t 40), none, false, false, [40]⟩,
     ⟨some 9, .mv (.t 41), none, false, false, [41]⟩])
    (.seq (.seq (.ops 11 false [⟨some 42, .fa 1 (.t 5), none, false, false, []⟩,
     ⟨some 43, .ld none [] (.t 42), none, false, false, [42]⟩,
     ⟨some 44, .bin .eql (.t 43) (.c (.int .i64 0)), none, false, false, [43]⟩,
     ⟨some 45, .mv (.t 44), none, false, false, [44]⟩,
     ⟨some 46, .mv (.t 9), (some (45, true)), true, false, []⟩,
     ⟨some 47, .bin .gtr (.o 46) (.c (.int .i64 1)), (some (45, true)), true, false, [46]⟩,
     ⟨some 48, .pick (.t 45) (.t 47) (.c (.bool false)), none, false, false, [45, 47]⟩])
    (.cond (.t 48)
     (.ops 12 false [⟨some 49, .build [.nils, .int .i64 0] [(1, 1, .c (.int .i64 3))], none, false, false, []⟩,
      ⟨none, .st 2 (.t 5) (.t 49), none, false, false, [49]⟩])
     (.skip)))
    (.seq (.ops 13 false [⟨some 50, .mv (.t 9), none, false, false, [9]⟩,
     ⟨some 51, .bin .eql (.t 50) (.c (.int .i64 1)), none, false, false, [50]⟩,
     ⟨some 52, .fa 2 (.t 8), none, false, false, []⟩,
     ⟨none, .st 1 (.t 52) (.t 51), none, false, false, [51, 52]⟩])
    (.ops 14 false [⟨some 53, .mv (.t 4), none, false, false, [4]⟩,
     ⟨some 54, .ld (some 3) [] (.t 8), none, false, false, [8]⟩,
     ⟨some 55, .rowView 3 [.t 54], none, false, false, [54]⟩,
     ⟨some 56, .app 3 (.t 53) (.t 55), none, false, false, [53, 55]⟩,
     ⟨some 4, .mv (.t 56), none, false, false, [56]⟩])))))))))
   (.ops 5 false [⟨some 23, .mv (.t 7), none, false, false, [7]⟩,
    ⟨some 24, .bin .add (.t 23) (.c (.int .i64 1)), none, false, false, [23]⟩,
    ⟨some 7, .mv (.t 24), none, false, false, [24]⟩]))))))
 (.seq (.ops 15 false [⟨some 57, .ld (some 2) [] (.t 5), none, false, false, [5]⟩,
  ⟨some 58, .mv (.t 4), none, false, false, [4]⟩,
  ⟨none, .st 2 (.t 2) (.t 57), none, false, false, [57]⟩,
  ⟨some 3, .mv (.t 58), none, false, false, [58]⟩])
 (.ret)))))
def rs_r32_handful : List IRes := [.cell 2 (some 2), .t 3]
theorem ok_r32_handful : fnOk Tryz.prog 42 ic_r32_handful rs_r32_handful 59 = true := by kernel_rfl

/-- tallyman/tallymanref32.tasks -/
def ic_r32_tasks : ICode :=
 .seq (.ops 0 false [⟨some 1, .box (.t 0), none, false, false, [0]⟩,
  ⟨some 2, .alloc [.nils, .int .i64 0], none, false, false, []⟩,
  ⟨some 3, .mv (.c (.nils)), none, false, false, [3]⟩])
 (.seq (.ops 1 false [⟨some 4, .mv (.c (.nils)), none, false, false, []⟩])
 (.seq (.ops 2 false [⟨some 10, .ld (some 2) [] (.t 1), none, false, false, [1]⟩,
  ⟨some 11, .call (.c (.fn 73 [] [])) [.t 10], none, false, false, [10]⟩,
  ⟨some 9, .mv (.t 11), none, false, false, [11]⟩,
  ⟨some 12, .ext 0 (.t 9), none, false, false, []⟩,
  ⟨some 13, .ext 1 (.t 9), none, false, false, [9]⟩,
  ⟨some 5, .alloc [.nils, .int .i64 0], none, false, false, []⟩,
  ⟨none, .st 2 (.t 5) (.t 12), none, false, false, [12]⟩,
  ⟨some 6, .mv (.t 13), none, false, false, [13]⟩])
 (.seq (.seq (.ops 3 false [⟨some 7, .mv (.c (.int .i64 0)), none, false, false, []⟩])
 (.block 0 (.loop [2, 4, 5, 6, 7] (.seq (.seq (.ops 4 false [⟨some 14, .mv (.t 7), none, false, false, []⟩,
    ⟨some 15, .mv (.t 6), none, false, false, []⟩,
    ⟨some 16, .bin .lss (.t 14) (.t 15), none, false, false, [14, 15]⟩,
    ⟨some 17, .mv (.t 16), none, false, false, [16]⟩,
    ⟨some 18, .fa 1 (.t 5), (some (17, true)), true, false, []⟩,
    ⟨some 19, .ld none [] (.o 18), (some (17, true)), true, false, [18]⟩,
    ⟨some 20, .bin .eql (.o 19) (.c (.int .i64 0)), (some (17, true)), true, false, [19]⟩,
    ⟨some 21, .pick (.t 17) (.t 20) (.c (.bool false)), none, false, false, [17, 20]⟩])
   (.cond (.t 21)
    (.skip)
    (.exit 0)))
   (.seq (.block 1 (.seq (.ops 6 false [⟨some 8, .alloc [.int .i64 0, .int .i64 0, .int .u64 0, .int .u64 0, .int .i64 0, .int .i64 0, .int .i64 0, .int .i64 0, .nils, .int .i64 0, .int .i64 0, .int .i64 0, .int .i64 0, .nils], none, false, false, []⟩])
    (.seq (.ops 7 false [⟨some 25, .ld (some 2) [] (.t 5), none, false, false, []⟩,
     ⟨some 26, .call (.c (.fn 75 [] [])) [.t 25], none, false, false, [25]⟩,
     ⟨some 24, .mv (.t 26), none, false, false, [26]⟩,
     ⟨some 27, .ext 0 (.t 24), none, false, false, []⟩,
     ⟨some 28, .ext 1 (.t 24), none, false, false, [24]⟩,
     ⟨none, .st 2 (.t 5) (.t 27), none, false, false, [27]⟩,
     ⟨some 29, .fa 0 (.t 8), none, false, false, []⟩,
     ⟨none, .st 9 (.t 29) (.t 28), none, false, false, [28, 29]⟩])
    (.seq (.ops 8 false [⟨some 31, .ld (some 2) [] (.t 5), none, false, false, []⟩,
     ⟨some 32, .call (.c (.fn 39 [] [])) [.t 31], none, false, false, [31]⟩,
     ⟨some 30, .mv (.t 32), none, false, false, [32]⟩,
     ⟨some 33, .ext 0 (.t 30), none, false, false, []⟩,
     ⟨some 34, .ext 1 (.t 30), none, false, false, [30]⟩,
     ⟨none, .st 2 (.t 5) (.t 33), none, false, false, [33]⟩,
     ⟨some 35, .fa 9 (.t 8), none, false, false, []⟩,
     ⟨none, .st 1 (.t 35) (.t 34), none, false, false, [34, 35]⟩])
    (.seq (.ops 9 false [⟨some 37, .ld (some 2) [] (.t 5), none, false, false, []⟩,
     ⟨some 38, .call (.c (.fn 39 [] [])) [.t 37], none, false, false, [37]⟩,
     ⟨some 36, .mv (.t 38), none, false, false, [38]⟩,
     ⟨some 39, .ext 0 (.t 36), none, false, false, []⟩,
     ⟨some 40, .ext 1 (.t 36), none, false, false, [36]⟩,
     ⟨none, .st 2 (.t 5) (.t 39), none, false, false, [39]⟩,
     ⟨some 41, .fa 10 (.t 8), none, false, false, []⟩,
     ⟨none, .st 1 (.t 41) (.t 40), none, false, false, [40, 41]⟩])
    (.seq (.ops 10 false [⟨some 43, .ld (some 2) [] (.t 5), none, false, false, []⟩,
     ⟨some 44, .call (.c (.fn 39 [] [])) [.t 43], none, false, false, [43]⟩,
     ⟨some 42, .mv (.t 44), none, false, false, [44]⟩,
     ⟨some 45, .ext 0 (.t 42), none, false, false, []⟩,
     ⟨some 46, .ext 1 (.t 42), none, false, false, [42]⟩,
     ⟨none, .st 2 (.t 5) (.t 45), none, false, false, [45]⟩,
     ⟨some 47, .fa 11 (.t 8), none, false, false, []⟩,
     ⟨none, .st 1 (.t 47) (.t 46), none, false, false, [46, 47]⟩])
    (.seq (.ops 11 false [⟨some 49, .ld (some 2) [] (.t 5), none, false, false, []⟩,
     ⟨some 50, .call (.c (.fn 39 [] [])) [.t 49], none, false, false, [49]⟩,
     ⟨some 48, .mv (.t 50), none, false, false, [50]⟩,
     ⟨some 51, .ext 0 (.t 48), none, false, false, []⟩,
     ⟨some 52, .ext 1 (.t 48), none, false, false, [48]⟩,
     ⟨none, .st 2 (.t 5) (.t 51), none, false, false, [51]⟩,
     ⟨some 53, .fa 12 (.t 8), none, false, false, []⟩,
     ⟨none, .st 1 (.t 53) (.t 52), none, false, false, [52, 53]⟩])
    (.seq (.ops 12 false [⟨some 55, .ld (some 2) [] (.t 5), none, false, false, []⟩,
     ⟨some 56, .call (.c (.fn 76 [] [])) [.t 55], none, false, false, [55]⟩,
     ⟨some 54, .mv (.t 56), none, false, false, [56]⟩,
     ⟨some 57, .ext 0 (.t 54), none, false, false, []⟩,
     ⟨some 58, .ext 1 (.t 54), none, false, false, [54]⟩,
     ⟨none, .st 2 (.t 5) (.t 57), none, false, false, [57]⟩,
     ⟨some 59, .fa 13 (.t 8), none, false, false, []⟩,
     ⟨none, .st 1 (.t 59) (.t 58), none, false, false, [58, 59]⟩])
    (.ops 13 false [⟨some 60, .mv (.t 4), none, false, false, [4]⟩,
     ⟨some 61, .ld (some 14) [] (.t 8), none, false, false, [8]⟩,
     ⟨some 62, .rowView 14 [.t 61], none, false, false, [61]⟩,
     ⟨some 63, .app 14 (.t 60) (.t 62), none, false, false, [60, 62]⟩,
     ⟨some 4, .mv (.t 63), none, false, false, [63]⟩])))))))))
   (.ops 5 false [⟨some 22, .mv (.t 7), none, false, false, [7]⟩,
    ⟨some 23, .bin .add (.t 22) (.c (.int .i64 1)), none, false, false, [22]⟩,
    ⟨some 7, .mv (.t 23), none, false, false, [23]⟩]))))))
 (.seq (.ops 14 false [⟨some 64, .ld (some 2) [] (.t 5), none, false, false, [5]⟩,
  ⟨some 65, .mv (.t 4), none, false, false, [4]⟩,
  ⟨none, .st 2 (.t 2) (.t 64), none, false, false, [64]⟩,
  ⟨some 3, .mv (.t 65), none, false, false, [65]⟩])
 (.ret)))))
def rs_r32_tasks : List IRes := [.cell 2 (some 2), .t 3]
theorem ok_r32_tasks : fnOk Tryz.prog 41 ic_r32_tasks rs_r32_tasks 66 = true := by kernel_rfl

/-- tallyman/tallymanref32.leases -/
def ic_r32_leases : ICode :=
 .seq (.ops 0 false [⟨some 1, .box (.t 0), none, false, false, [0]⟩,
  ⟨some 2, .alloc [.nils, .int .i64 0], none, false, false, []⟩,
  ⟨some 3, .mv (.c (.nils)), none, false, false, [3]⟩])
 (.seq (.ops 1 false [⟨some 4, .mv (.c (.nils)), none, false, false, []⟩])
 (.seq (.ops 2 false [⟨some 10, .ld (some 2) [] (.t 1), none, false, false, [1]⟩,
  ⟨some 11, .call (.c (.fn 73 [] [])) [.t 10], none, false, false, [10]⟩,
  ⟨some 9, .mv (.t 11), none, false, false, [11]⟩,
  ⟨some 12, .ext 0 (.t 9), none, false, false, []⟩,
  ⟨some 13, .ext 1 (.t 9), none, false, false, [9]⟩,
  ⟨some 5, .alloc [.nils, .int .i64 0], none, false, false, []⟩,
  ⟨none, .st 2 (.t 5) (.t 12), none, false, false, [12]⟩,
  ⟨some 6, .mv (.t 13), none, false, false, [13]⟩])
 (.seq (.seq (.ops 3 false [⟨some 7, .mv (.c (.int .i64 0)), none, false, false, []⟩])
 (.block 0 (.loop [2, 4, 5, 6, 7] (.seq (.seq (.ops 4 false [⟨some 14, .mv (.t 7), none, false, false, []⟩,
    ⟨some 15, .mv (.t 6), none, false, false, []⟩,
    ⟨some 16, .bin .lss (.t 14) (.t 15), none, false, false, [14, 15]⟩,
    ⟨some 17, .mv (.t 16), none, false, false, [16]⟩,
    ⟨some 18, .fa 1 (.t 5), (some (17, true)), true, false, []⟩,
    ⟨some 19, .ld none [] (.o 18), (some (17, true)), true, false, [18]⟩,
    ⟨some 20, .bin .eql (.o 19) (.c (.int .i64 0)), (some (17, true)), true, false, [19]⟩,
    ⟨some 21, .pick (.t 17) (.t 20) (.c (.bool false)), none, false, false, [17, 20]⟩])
   (.cond (.t 21)
    (.skip)
    (.exit 0)))
   (.seq (.block 1 (.seq (.ops 6 false [⟨some 8, .alloc [.int .i64 0, .int .i64 0, .int .i64 0, .int .i64 0, .int .i64 0, .int .i64 0, .nils], none, false, false, []⟩])
    (.seq (.ops 7 false [⟨some 25, .ld (some 2) [] (.t 5), none, false, false, []⟩,
     ⟨some 26, .call (.c (.fn 39 [] [])) [.t 25], none, false, false, [25]⟩,
     ⟨some 24, .mv (.t 26), none, false, false, [26]⟩,
     ⟨some 27, .ext 0 (.t 24), none, false, false, []⟩,
     ⟨some 28, .ext 1 (.t 24), none, false, false, [24]⟩,
     ⟨none, .st 2 (.t 5) (.t 27), none, false, false, [27]⟩,
     ⟨some 29, .fa 0 (.t 8), none, false, false, []⟩,
     ⟨none, .st 1 (.t 29) (.t 28), none, false, false, [28, 29]⟩])
    (.seq (.ops 8 false [⟨some 31, .ld (some 2) [] (.t 5), none, false, false, []⟩,
     ⟨some 32, .call (.c (.fn 39 [] [])) [.t 31], none, false, false, [31]⟩,
     ⟨some 30, .mv (.t 32), none, false, false, [32]⟩,
     ⟨some 33, .ext 0 (.t 30), none, false, false, []⟩,
     ⟨some 34, .ext 1 (.t 30), none, false, false, [30]⟩,
     ⟨none, .st 2 (.t 5) (.t 33), none, false, false, [33]⟩,
     ⟨some 35, .fa 1 (.t 8), none, false, false, []⟩,
     ⟨none, .st 1 (.t 35) (.t 34), none, false, false, [34, 35]⟩])
    (.seq (.ops 9 false [⟨some 37, .ld (some 2) [] (.t 5), none, false, false, []⟩,
     ⟨some 38, .call (.c (.fn 39 [] [])) [.t 37], none, false, false, [37]⟩,
     ⟨some 36, .mv (.t 38), none, false, false, [38]⟩,
     ⟨some 39, .ext 0 (.t 36), none, false, false, []⟩,
     ⟨some 40, .ext 1 (.t 36), none, false, false, [36]⟩,
     ⟨none, .st 2 (.t 5) (.t 39), none, false, false, [39]⟩,
     ⟨some 41, .fa 2 (.t 8), none, false, false, []⟩,
     ⟨none, .st 1 (.t 41) (.t 40), none, false, false, [40, 41]⟩])
    (.seq (.ops 10 false [⟨some 43, .ld (some 2) [] (.t 5), none, false, false, []⟩,
     ⟨some 44, .call (.c (.fn 39 [] [])) [.t 43], none, false, false, [43]⟩,
     ⟨some 42, .mv (.t 44), none, false, false, [44]⟩,
     ⟨some 45, .ext 0 (.t 42), none, false, false, []⟩,
     ⟨some 46, .ext 1 (.t 42), none, false, false, [42]⟩,
     ⟨none, .st 2 (.t 5) (.t 45), none, false, false, [45]⟩,
     ⟨some 47, .fa 3 (.t 8), none, false, false, []⟩,
     ⟨none, .st 1 (.t 47) (.t 46), none, false, false, [46, 47]⟩])
    (.seq (.ops 11 false [⟨some 49, .ld (some 2) [] (.t 5), none, false, false, []⟩,
     ⟨some 50, .call (.c (.fn 39 [] [])) [.t 49], none, false, false, [49]⟩,
     ⟨some 48, .mv (.t 50), none, false, false, [50]⟩,
     ⟨some 51, .ext 0 (.t 48), none, false, false, []⟩,
     ⟨some 52, .ext 1 (.t 48), none, false, false, [48]⟩,
     ⟨none, .st 2 (.t 5) (.t 51), none, false, false, [51]⟩,
     ⟨some 53, .fa 4 (.t 8), none, false, false, []⟩,
     ⟨none, .st 1 (.t 53) (.t 52), none, false, false, [52, 53]⟩])
    (.seq (.ops 12 false [⟨some 55, .ld (some 2) [] (.t 5), none, false, false, []⟩,
     ⟨some 56, .call (.c (.fn 39 [] [])) [.t 55], none, false, false, [55]⟩,
     ⟨some 54, .mv (.t 56), none, false, false, [56]⟩,
     ⟨some 57, .ext 0 (.t 54), none, false, false, []⟩,
     ⟨some 58, .ext 1 (.t 54), none, false, false, [54]⟩,
     ⟨none, .st 2 (.t 5) (.t 57), none, false, false, [57]⟩,
     ⟨some 59, .fa 5 (.t 8), none, false, false, []⟩,
     ⟨none, .st 1 (.t 59) (.t 58), none, false, false, [58, 59]⟩])
    (.seq (.ops 13 false [⟨some 61, .ld (some 2) [] (.t 5), none, false, false, []⟩,
     ⟨some 62, .call (.c (.fn 76 [] [])) [.t 61], none, false, false, [61]⟩,
     ⟨some 60, .mv (.t 62), none, false, false, [62]⟩,
     ⟨some 63, .ext 0 (.t 60), none, false, false, []⟩,
     ⟨some 64, .ext 1 (.t 60), none, false, false, [60]⟩,
     ⟨none, .st 2 (.t 5) (.t 63), none, false, false, [63]⟩,
     ⟨some 65, .fa 6 (.t 8), none, false, false, []⟩,
     ⟨none, .st 1 (.t 65) (.t 64), none, false, false, [64, 65]⟩])
    (.seq (.ops 14 false [⟨some 66, .fa 4 (.t 8), none, false, false, []⟩,
     ⟨some 67, .ld none [] (.t 66), none, false, false, [66]⟩,
     ⟨some 68, .bin .sub (.t 67) (.c (.int .i64 1)), none, false, false, [67]⟩,
     ⟨some 69, .fa 4 (.t 8), none, false, false, []⟩,
     ⟨none, .st 1 (.t 69) (.t 68), none, false, false, [68, 69]⟩])
    (.ops 15 false [⟨some 70, .mv (.t 4), none, false, false, [4]⟩,
     ⟨some 71, .ld (some 7) [] (.t 8), none, false, false, [8]⟩,
     ⟨some 72, .rowView 7 [.t 71], none, false, false, [71]⟩,
     ⟨some 73, .app 7 (.t 70) (.t 72), none, false, false, [70, 72]⟩,
     ⟨some 4, .mv (.t 73), none, false, false, [73]⟩])))))))))))
   (.ops 5 false [⟨some 22, .mv (.t 7), none, false, false, [7]⟩,
    ⟨some 23, .bin .add (.t 22) (.c (.int .i64 1)), none, false, false, [22]⟩,
    ⟨some 7, .mv (.t 23), none, false, false, [23]⟩]))))))
 (.seq (.ops 16 false [⟨some 74, .ld (some 2) [] (.t 5), none, false, false, [5]⟩,
  ⟨some 75, .mv (.t 4), none, false, false, [4]⟩,
  ⟨none, .st 2 (.t 2) (.t 74), none, false, false, [74]⟩,
  ⟨some 3, .mv (.t 75), none, false, false, [75]⟩])
 (.ret)))))
def rs_r32_leases : List IRes := [.cell 2 (some 2), .t 3]
theorem ok_r32_leases : fnOk Tryz.prog 43 ic_r32_leases rs_r32_leases 76 = true := by kernel_rfl

/-- tallyman/tallymanref32.locks -/
def ic_r32_locks : ICode :=
 .seq (.ops 0 false [⟨some 1, .box (.t 0), none, false, false, [0]⟩,
  ⟨some 2, .alloc [.nils, .int .i64 0], none, false, false, []⟩,
  ⟨some 3, .mv (.c (.nils)), none, false, false, [3]⟩])
 (.seq (.ops 1 false [⟨some 4, .mv (.c (.nils)), none, false, false, []⟩])
 (.seq (.ops 2 false [⟨some 10, .ld (some 2) [] (.t 1), none, false, false, [1]⟩,
  ⟨some 11, .call (.c (.fn 73 [] [])) [.t 10], none, false, false, [10]⟩,
  ⟨some 9, .mv (.t 11), none, false, false, [11]⟩,
  ⟨some 12, .ext 0 (.t 9), none, false, false, []⟩,
  ⟨some 13, .ext 1 (.t 9), none, false, false, [9]⟩,
  ⟨some 5, .alloc [.nils, .int .i64 0], none, false, false, []⟩,
  ⟨none, .st 2 (.t 5) (.t 12), none, false, false, [12]⟩,
  ⟨some 6, .mv (.t 13), none, false, false, [13]⟩])
 (.seq (.seq (.ops 3 false [⟨some 7, .mv (.c (.int .i64 0)), none, false, false, []⟩])
 (.block 0 (.loop [2, 4, 5, 6, 7] (.seq (.seq (.ops 4 false [⟨some 14, .mv (.t 7), none, false, false, []⟩,
    ⟨some 15, .mv (.t 6), none, false, false, []⟩,
    ⟨some 16, .bin .lss (.t 14) (.t 15), none, false, false, [14, 15]⟩,
    ⟨some 17, .mv (.t 16), none, false, false, [16]⟩,
    ⟨some 18, .fa 1 (.t 5), (some (17, true)), true, false, []⟩,
    ⟨some 19, .ld none [] (.o 18), (some (17, true)), true, false, [18]⟩,
    ⟨some 20, .bin .eql (.o 19) (.c (.int .i64 0)), (some (17, true)), true, false, [19]⟩,
    ⟨some 21, .pick (.t 17) (.t 20) (.c (.bool false)), none, false, false, [17, 20]⟩])
   (.cond (.t 21)
    (.skip)
    (.exit 0)))
   (.seq (.block 1 (.seq (.ops 6 false [⟨some 8, .alloc [.int .i64 0, .int .i64 0, .nils], none, false, false, []⟩])
    (.seq (.ops 7 false [⟨some 25, .ld (some 2) [] (.t 5), none, false, false, []⟩,
     ⟨some 26, .call (.c (.fn 39 [] [])) [.t 25], none, false, false, [25]⟩,
     ⟨some 24, .mv (.t 26), none, false, false, [26]⟩,
     ⟨some 27, .ext 0 (.t 24), none, false, false, []⟩,
     ⟨some 28, .ext 1 (.t 24), none, false, false, [24]⟩,
     ⟨none, .st 2 (.t 5) (.t 27), none, false, false, [27]⟩,
     ⟨some 29, .fa 0 (.t 8), none, false, false, []⟩,
     ⟨none, .st 1 (.t 29) (.t 28), none, false, false, [28, 29]⟩])
    (.seq (.ops 8 false [⟨some 31, .ld (some 2) [] (.t 5), none, false, false, []⟩,
     ⟨some 32, .call (.c (.fn 39 [] [])) [.t 31], none, false, false, [31]⟩,
     ⟨some 30, .mv (.t 32), none, false, false, [32]⟩,
     ⟨some 33, .ext 0 (.t 30), none, false, false, []⟩,
     ⟨some 34, .ext 1 (.t 30), none, false, false, [30]⟩,
     ⟨none, .st 2 (.t 5) (.t 33), none, false, false, [33]⟩,
     ⟨some 35, .fa 1 (.t 8), none, false, false, []⟩,
     ⟨none, .st 1 (.t 35) (.t 34), none, false, false, [34, 35]⟩])
    (.seq (.ops 9 false [⟨some 37, .ld (some 2) [] (.t 5), none, false, false, []⟩,
     ⟨some 38, .call (.c (.fn 76 [] [])) [.t 37], none, false, false, [37]⟩,
     ⟨some 36, .mv (.t 38), none, false, false, [38]⟩,
     ⟨some 39, .ext 0 (.t 36), none, false, false, []⟩,
     ⟨some 40, .ext 1 (.t 36), none, false, false, [36]⟩,
     ⟨none, .st 2 (.t 5) (.t 39), none, false, false, [39]⟩,
     ⟨some 41, .fa 2 (.t 8), none, false, false, []⟩,
     ⟨none, .st 1 (.t 41) (.t 40), none, false, false, [40, 41]⟩])
    (.ops 10 false [⟨some 42, .mv (.t 4), none, false, false, [4]⟩,
     ⟨some 43, .ld (some 3) [] (.t 8), none, false, false, [8]⟩,
     ⟨some 44, .rowView 3 [.t 43], none, false, false, [43]⟩,
     ⟨some 45, .app 3 (.t 42) (.t 44), none, false, false, [42, 44]⟩,
     ⟨some 4, .mv (.t 45), none, false, false, [45]⟩]))))))
   (.ops 5 false [⟨some 22, .mv (.t 7), none, false, false, [7]⟩,
    ⟨some 23, .bin .add (.t 22) (.c (.int .i64 1)), none, false, false, [22]⟩,
    ⟨some 7, .mv (.t 23), none, false, false, [23]⟩]))))))
 (.seq (.ops 11 false [⟨some 46, .ld (some 2) [] (.t 5), none, false, false, [5]⟩,
  ⟨some 47, .mv (.t 4), none, false, false, [4]⟩,
  ⟨none, .st 2 (.t 2) (.t 46), none, false, false, [46]⟩,
  ⟨some 3, .mv (.t 47), none, false, false, [47]⟩])
 (.ret)))))
def rs_r32_locks : List IRes := [.cell 2 (some 2), .t 3]
theorem ok_r32_locks : fnOk Tryz.prog 44 ic_r32_locks rs_r32_locks 48 = true := by kernel_rfl

/-- tallyman/tallymanref32.aisles -/
def ic_r32_aisles : ICode :=
 .seq (.ops 0 false [⟨some 1, .box (.t 0), none, false, false, [0]⟩,
  ⟨some 2, .alloc [.nils, .int .i64 0], none, false, false, []⟩,
  ⟨some 3, .mv (.c (.nils)), none, false, false, [3]⟩])
 (.seq (.ops 1 false [⟨some 4, .mv (.c (.nils)), none, false, false, []⟩])
 (.seq (.ops 2 false [⟨some 10, .ld (some 2) [] (.t 1), none, false, false, [1]⟩,
  ⟨some 11, .call (.c (.fn 73 [] [])) [.t 10], none, false, false, [10]⟩,
  ⟨some 9, .mv (.t 11), none, false, false, [11]⟩,
  ⟨some 12, .ext 0 (.t 9), none, false, false, []⟩,
  ⟨some 13, .ext 1 (.t 9), none, false, false, [9]⟩,
  ⟨some 5, .alloc [.nils, .int .i64 0], none, false, false, []⟩,
  ⟨none, .st 2 (.t 5) (.t 12), none, false, false, [12]⟩,
  ⟨some 6, .mv (.t 13), none, false, false, [13]⟩])
 (.seq (.seq (.ops 3 false [⟨some 7, .mv (.c (.int .i64 0)), none, false, false, []⟩])
 (.block 0 (.loop [2, 4, 5, 6, 7] (.seq (.seq (.ops 4 false [⟨some 14, .mv (.t 7), none, false, false, []⟩,
    ⟨some 15, .mv (.t 6), none, false, false, []⟩,
    ⟨some 16, .bin .lss (.t 14) (.t 15), none, false, false, [14, 15]⟩,
    ⟨some 17, .mv (.t 16), none, false, false, [16]⟩,
    ⟨some 18, .fa 1 (.t 5), (some (17, true)), true, false, []⟩,
    ⟨some 19, .ld none [] (.o 18), (some (17, true)), true, false, [18]⟩,
    ⟨some 20, .bin .eql (.o 19) (.c (.int .i64 0)), (some (17, true)), true, false, [19]⟩,
    ⟨some 21, .pick (.t 17) (.t 20) (.c (.bool false)), none, false, false, [17, 20]⟩])
   (.cond (.t 21)
    (.skip)
    (.exit 0)))
   (.seq (.block 1 (.seq (.ops 6 false [⟨some 8, .alloc [.int .i64 0, .int .i64 0, .int .i64 0, .int .i64 0, .int .i64 0], none, false, false, []⟩])
    (.seq (.ops 7 false [⟨some 25, .ld (some 2) [] (.t 5), none, false, false, []⟩,
     ⟨some 26, .call (.c (.fn 39 [] [])) [.t 25], none, false, false, [25]⟩,
     ⟨some 24, .mv (.t 26), none, false, false, [26]⟩,
     ⟨some 27, .ext 0 (.t 24), none, false, false, []⟩,
     ⟨some 28, .ext 1 (.t 24), none, false, false, [24]⟩,
     ⟨none, .st 2 (.t 5) (.t 27), none, false, false, [27]⟩,
     ⟨some 29, .fa 0 (.t 8), none, false, false, []⟩,
     ⟨none, .st 1 (.t 29) (.t 28), none, false, false, [28, 29]⟩])
    (.seq (.ops 8 false [⟨some 31, .ld (some 2) [] (.t 5), none, false, false, []⟩,
     ⟨some 32, .call (.c (.fn 74 [] [])) [.t 31], none, false, false, [31]⟩,
     ⟨some 30, .mv (.t 32), none, false, false, [32]⟩,
     ⟨some 33, .ext 0 (.t 30), none, false, false, []⟩,
     ⟨some 34, .ext 1 (.t 30), none, false, false, [30]⟩,
     ⟨none, .st 2 (.t 5) (.t 33), none, false, false, [33]⟩,
     ⟨some 35, .fa 1 (.t 8), none, false, false, []⟩,
     ⟨none, .st 2 (.t 35) (.t 34), none, false, false, [34, 35]⟩])
    (.seq (.ops 9 false [⟨some 37, .ld (some 2) [] (.t 5), none, false, false, []⟩,
     ⟨some 38, .call (.c (.fn 74 [] [])) [.t 37], none, false, false, [37]⟩,
     ⟨some 36, .mv (.t 38), none, false, false, [38]⟩,
     ⟨some 39, .ext 0 (.t 36), none, false, false, []⟩,
     ⟨some 40, .ext 1 (.t 36), none, false, false, [36]⟩,
     ⟨none, .st 2 (.t 5) (.t 39), none, false, false, [39]⟩,
     ⟨some 41, .fa 3 (.t 8), none, false, false, []⟩,
     ⟨none, .st 2 (.t 41) (.t 40), none, false, false, [40, 41]⟩])
    (.ops 10 false [⟨some 42, .mv (.t 4), none, false, false, [4]⟩,
     ⟨some 43, .ld (some 5) [] (.t 8), none, false, false, [8]⟩,
     ⟨some 44, .rowView 5 [.t 43], none, false, false, [43]⟩,
     ⟨some 45, .app 5 (.t 42) (.t 44), none, false, false, [42, 44]⟩,
     ⟨some 4, .mv (.t 45), none, false, false, [45]⟩]))))))
   (.ops 5 false [⟨some 22, .mv (.t 7), none, false, false, [7]⟩,
    ⟨some 23, .bin .add (.t 22) (.c (.int .i64 1)), none, false, false, [22]⟩,
    ⟨some 7, .mv (.t 23), none, false, false, [23]⟩]))))))
 (.seq (.ops 11 false [⟨some 46, .ld (some 2) [] (.t 5), none, false, false, [5]⟩,
  ⟨some 47, .mv (.t 4), none, false, false, [4]⟩,
  ⟨none, .st 2 (.t 2) (.t 46), none, false, false, [46]⟩,
  ⟨some 3, .mv (.t 47), none, false, false, [47]⟩])
 (.ret)))))
def rs_r32_aisles : List IRes := [.cell 2 (some 2), .t 3]
theorem ok_r32_aisles : fnOk Tryz.prog 40 ic_r32_aisles rs_r32_aisles 48 = true := by kernel_rfl

/-- tallyman/tallymanref32.Decode -/
def ic_r32_Decode : ICode :=
 .seq (.ops 0 false [⟨some 2, .alloc [.int .i64 0, .int .i64 0, .int .i64 0, .int .i64 0, .int .i64 0, .int .i64 0, .int .i64 0, .nils], none, false, false, []⟩,
  ⟨some 3, .alloc [.int .i64 0, .int .i64 0, .int .i64 0, .nils, .nils, .nils, .nils, .nils], none, false, false, []⟩,
  ⟨some 4, .mv (.c (.int .i64 0)), none, false, false, [4]⟩])
 (.seq (.ops 1 false [⟨some 8, .mv (.t 0), none, false, false, [0]⟩,
  ⟨some 9, .build [.nils, .int .i64 0] [(0, 1, .t 8)], none, false, false, [8]⟩,
  ⟨some 5, .alloc [.nils, .int .i64 0], none, false, false, []⟩,
  ⟨none, .st 2 (.t 5) (.t 9), none, false, false, [9]⟩])
 (.seq (.ops 2 false [⟨some 6, .alloc [.int .i64 0, .int .i64 0, .int .i64 0, .int .i64 0, .int .i64 0, .int .i64 0, .int .i64 0, .nils], none, false, false, []⟩])
 (.seq (.ops 3 false [⟨some 7, .alloc [.int .i64 0, .int .i64 0, .int .i64 0, .nils, .nils, .nils, .nils, .nils], none, false, false, []⟩])
 (.seq (.ops 4 false [⟨some 11, .ld (some 2) [] (.t 5), none, false, false, []⟩,
  ⟨some 12, .call (.c (.fn 39 [] [])) [.t 11], none, false, false, [11]⟩,
  ⟨some 10, .mv (.t 12), none, false, false, [12]⟩,
  ⟨some 13, .ext 0 (.t 10), none, false, false, []⟩,
  ⟨some 14, .ext 1 (.t 10), none, false, false, [10]⟩,
  ⟨none, .st 2 (.t 5) (.t 13), none, false, false, [13]⟩,
  ⟨some 15, .fa 0 (.t 6), none, false, false, []⟩,
  ⟨none, .st 1 (.t 15) (.t 14), none, false, false, [14, 15]⟩])
 (.seq (.ops 5 false [⟨some 17, .ld (some 2) [] (.t 5), none, false, false, []⟩,
  ⟨some 18, .call (.c (.fn 39 [] [])) [.t 17], none, false, false, [17]⟩,
  ⟨some 16, .mv (.t 18), none, false, false, [18]⟩,
  ⟨some 19, .ext 0 (.t 16), none, false, false, []⟩,
  ⟨some 20, .ext 1 (.t 16), none, false, false, [16]⟩,
  ⟨none, .st 2 (.t 5) (.t 19), none, false, false, [19]⟩,
  ⟨some 21, .fa 1 (.t 6), none, false, false, []⟩,
  ⟨none, .st 1 (.t 21) (.t 20), none, false, false, [20, 21]⟩])
 (.seq (.ops 6 false [⟨some 23, .ld (some 2) [] (.t 5), none, false, false, []⟩,
  ⟨some 24, .call (.c (.fn 39 [] [])) [.t 23], none, false, false, [23]⟩,
  ⟨some 22, .mv (.t 24), none, false, false, [24]⟩,
  ⟨some 25, .ext 0 (.t 22), none, false, false, []⟩,
  ⟨some 26, .ext 1 (.t 22), none, false, false, [22]⟩,
  ⟨none, .st 2 (.t 5) (.t 25), none, false, false, [25]⟩,
  ⟨some 27, .fa 2 (.t 6), none, false, false, []⟩,
  ⟨none, .st 1 (.t 27) (.t 26), none, false, false, [26, 27]⟩])
 (.seq (.ops 7 false [⟨some 29, .ld (some 2) [] (.t 5), none, false, false, []⟩,
  ⟨some 30, .call (.c (.fn 39 [] [])) [.t 29], none, false, false, [29]⟩,
  ⟨some 28, .mv (.t 30), none, false, false, [30]⟩,
  ⟨some 31, .ext 0 (.t 28), none, false, false, []⟩,
  ⟨some 32, .ext 1 (.t 28), none, false, false, [28]⟩,
  ⟨none, .st 2 (.t 5) (.t 31), none, false, false, [31]⟩,
  ⟨some 33, .fa 3 (.t 6), none, false, false, []⟩,
  ⟨none, .st 1 (.t 33) (.t 32), none, false, false, [32, 33]⟩])
 (.seq (.ops 8 false [⟨some 35, .ld (some 2) [] (.t 5), none, false, false, []⟩,
  ⟨some 36, .call (.c (.fn 39 [] [])) [.t 35], none, false, false, [35]⟩,
  ⟨some 34, .mv (.t 36), none, false, false, [36]⟩,
  ⟨some 37, .ext 0 (.t 34), none, false, false, []⟩,
  ⟨some 38, .ext 1 (.t 34), none, false, false, [34]⟩,
  ⟨none, .st 2 (.t 5) (.t 37), none, false, false, [37]⟩,
  ⟨some 39, .fa 4 (.t 6), none, false, false, []⟩,
  ⟨none, .st 1 (.t 39) (.t 38), none, false, false, [38, 39]⟩])
 (.seq (.ops 9 false [⟨some 41, .ld (some 2) [] (.t 5), none, false, false, []⟩,
  ⟨some 42, .call (.c (.fn 39 [] [])) [.t 41], none, false, false, [41]⟩,
  ⟨some 40, .mv (.t 42), none, false, false, [42]⟩,
  ⟨some 43, .ext 0 (.t 40), none, false, false, []⟩,
  ⟨some 44, .ext 1 (.t 40), none, false, false, [40]⟩,
  ⟨none, .st 2 (.t 5) (.t 43), none, false, false, [43]⟩,
  ⟨some 45, .fa 5 (.t 6), none, false, false, []⟩,
  ⟨none, .st 1 (.t 45) (.t 44), none, false, false, [44, 45]⟩])
 (.seq (.ops 10 false [⟨some 47, .ld (some 2) [] (.t 5), none, false, false, []⟩,
  ⟨some 48, .call (.c (.fn 39 [] [])) [.t 47], none, false, false, [47]⟩,
  ⟨some 46, .mv (.t 48), none, false, false, [48]⟩,
  ⟨some 49, .ext 0 (.t 46), none, false, false, []⟩,
  ⟨some 50, .ext 1 (.t 46), none, false, false, [46]⟩,
  ⟨none, .st 2 (.t 5) (.t 49), none, false, false, [49]⟩,
  ⟨some 51, .fa 6 (.t 6), none, false, false, []⟩,
  ⟨none, .st 1 (.t 51) (.t 50), none, false, false, [50, 51]⟩])
 (.seq (.ops 11 false [⟨some 53, .ld (some 2) [] (.t 5), none, false, false, []⟩,
  ⟨some 54, .call (.c (.fn 40 [] [])) [.t 53], none, false, false, [53]⟩,
  ⟨some 52, .mv (.t 54), none, false, false, [54]⟩,
  ⟨some 55, .ext 0 (.t 52), none, false, false, []⟩,
  ⟨some 56, .ext 1 (.t 52), none, false, false, [52]⟩,
  ⟨none, .st 2 (.t 5) (.t 55), none, false, false, [55]⟩,
  ⟨some 57, .fa 7 (.t 6), none, false, false, []⟩,
  ⟨none, .st 1 (.t 57) (.t 56), none, false, false, [56, 57]⟩])
 (.seq (.ops 12 false [⟨some 59, .ld (some 2) [] (.t 5), none, false, false, []⟩,
  ⟨some 60, .call (.c (.fn 39 [] [])) [.t 59], none, false, false, [59]⟩,
  ⟨some 58, .mv (.t 60), none, false, false, [60]⟩,
  ⟨some 61, .ext 0 (.t 58), none, false, false, []⟩,
  ⟨some 62, .ext 1 (.t 58), none, false, false, [58]⟩,
  ⟨none, .st 2 (.t 5) (.t 61), none, false, false, [61]⟩,
  ⟨some 63, .fa 0 (.t 7), none, false, false, []⟩,
  ⟨none, .st 1 (.t 63) (.t 62), none, false, false, [62, 63]⟩])
 (.seq (.ops 13 false [⟨some 65, .ld (some 2) [] (.t 5), none, false, false, []⟩,
  ⟨some 66, .call (.c (.fn 39 [] [])) [.t 65], none, false, false, [65]⟩,
  ⟨some 64, .mv (.t 66), none, false, false, [66]⟩,
  ⟨some 67, .ext 0 (.t 64), none, false, false, []⟩,
  ⟨some 68, .ext 1 (.t 64), none, false, false, [64]⟩,
  ⟨none, .st 2 (.t 5) (.t 67), none, false, false, [67]⟩,
  ⟨some 69, .fa 1 (.t 7), none, false, false, []⟩,
  ⟨none, .st 1 (.t 69) (.t 68), none, false, false, [68, 69]⟩])
 (.seq (.ops 14 false [⟨some 71, .ld (some 2) [] (.t 5), none, false, false, []⟩,
  ⟨some 72, .call (.c (.fn 39 [] [])) [.t 71], none, false, false, [71]⟩,
  ⟨some 70, .mv (.t 72), none, false, false, [72]⟩,
  ⟨some 73, .ext 0 (.t 70), none, false, false, []⟩,
  ⟨some 74, .ext 1 (.t 70), none, false, false, [70]⟩,
  ⟨none, .st 2 (.t 5) (.t 73), none, false, false, [73]⟩,
  ⟨some 75, .fa 2 (.t 7), none, false, false, []⟩,
  ⟨none, .st 1 (.t 75) (.t 74), none, false, false, [74, 75]⟩])
 (.seq (.ops 15 false [⟨some 77, .ld (some 2) [] (.t 5), none, false, false, []⟩,
  ⟨some 78, .call (.c (.fn 41 [] [])) [.t 77], none, false, false, [77]⟩,
  ⟨some 76, .mv (.t 78), none, false, false, [78]⟩,
  ⟨some 79, .ext 0 (.t 76), none, false, false, []⟩,
  ⟨some 80, .ext 1 (.t 76), none, false, false, [76]⟩,
  ⟨none, .st 2 (.t 5) (.t 79), none, false, false, [79]⟩,
  ⟨some 81, .fa 3 (.t 7), none, false, false, []⟩,
  ⟨none, .st 1 (.t 81) (.t 80), none, false, false, [80, 81]⟩])
 (.seq (.ops 16 false [⟨some 83, .ld (some 2) [] (.t 5), none, false, false, []⟩,
  ⟨some 84, .call (.c (.fn 42 [] [])) [.t 83], none, false, false, [83]⟩,
  ⟨some 82, .mv (.t 84), none, false, false, [84]⟩,
  ⟨some 85, .ext 0 (.t 82), none, false, false, []⟩,
  ⟨some 86, .ext 1 (.t 82), none, false, false, [82]⟩,
  ⟨none, .st 2 (.t 5) (.t 85), none, false, false, [85]⟩,
  ⟨some 87, .fa 4 (.t 7), none, false, false, []⟩,
  ⟨none, .st 1 (.t 87) (.t 86), none, false, false, [86, 87]⟩])
 (.seq (.ops 17 false [⟨some 89, .ld (some 2) [] (.t 5), none, false, false, []⟩,
  ⟨some 90, .call (.c (.fn 42 [] [])) [.t 89], none, false, false, [89]⟩,
  ⟨some 88, .mv (.t 90), none, false, false, [90]⟩,
  ⟨some 91, .ext 0 (.t 88), none, false, false, []⟩,
  ⟨some 92, .ext 1 (.t 88), none, false, false, [88]⟩,
  ⟨none, .st 2 (.t 5) (.t 91), none, false, false, [91]⟩,
  ⟨some 93, .fa 5 (.t 7), none, false, false, []⟩,
  ⟨none, .st 1 (.t 93) (.t 92), none, false, false, [92, 93]⟩])
 (.seq (.ops 18 false [⟨some 95, .ld (some 2) [] (.t 5), none, false, false, []⟩,
  ⟨some 96, .call (.c (.fn 43 [] [])) [.t 95], none, false, false, [95]⟩,
  ⟨some 94, .mv (.t 96), none, false, false, [96]⟩,
  ⟨some 97, .ext 0 (.t 94), none, false, false, []⟩,
  ⟨some 98, .ext 1 (.t 94), none, false, false, [94]⟩,
  ⟨none, .st 2 (.t 5) (.t 97), none, false, false, [97]⟩,
  ⟨some 99, .fa 6 (.t 7), none, false, false, []⟩,
  ⟨none, .st 1 (.t 99) (.t 98), none, false, false, [98, 99]⟩])
 (.seq (.ops 19 false [⟨some 101, .ld (some 2) [] (.t 5), none, false, false, []⟩,
  ⟨some 102, .call (.c (.fn 44 [] [])) [.t 101], none, false, false, [101]⟩,
  ⟨some 100, .mv (.t 102), none, false, false, [102]⟩,
  ⟨some 103, .ext 0 (.t 100), none, false, false, []⟩,
  ⟨some 104, .ext 1 (.t 100), none, false, false, [100]⟩,
  ⟨none, .st 2 (.t 5) (.t 103), none, false, false, [103]⟩,
  ⟨some 105, .fa 7 (.t 7), none, false, false, []⟩,
  ⟨none, .st 1 (.t 105) (.t 104), none, false, false, [104, 105]⟩])
 (.seq (.seq (.ops 20 false [⟨some 106, .fa 1 (.t 5), none, false, false, []⟩,
  ⟨some 107, .ld none [] (.t 106), none, false, false, [106]⟩,
  ⟨some 108, .bin .eql (.t 107) (.c (.int .i64 0)), none, false, false, [107]⟩,
  ⟨some 109, .mv (.t 108), none, false, false, [108]⟩,
  ⟨some 110, .fa 0 (.t 5), (some (109, true)), true, false, []⟩,
  ⟨some 111, .ld none [] (.o 110), (some (109, true)), true, false, [110]⟩,
  ⟨some 112, .len (.o 111), (some (109, true)), true, false, [111]⟩,
  ⟨some 113, .bin .gtr (.o 112) (.c (.int .i64 0)), (some (109, true)), true, false, [112]⟩,
  ⟨some 114, .pick (.t 109) (.t 113) (.c (.bool false)), none, false, false, [109, 113]⟩])
 (.cond (.t 114)
  (.ops 21 false [⟨some 115, .fa 1 (.t 5), none, false, false, []⟩,
   ⟨none, .st 1 (.t 115) (.c (.int .i64 3)), none, false, false, [115]⟩])
  (.skip)))
 (.seq (.seq (.ops 22 false [⟨some 116, .fa 1 (.t 5), none, false, false, []⟩,
  ⟨some 117, .ld none [] (.t 116), none, false, false, [116]⟩,
  ⟨some 118, .bin .eql (.t 117) (.c (.int .i64 0)), none, false, false, [117]⟩])
 (.cond (.t 118)
  (.ops 23 false [⟨some 119, .ld (some 8) [] (.t 6), none, false, false, []⟩,
   ⟨some 120, .ld (some 8) [] (.t 7), none, false, false, []⟩,
   ⟨some 121, .call (.c (.fn 14 [] [])) [.t 119, .t 120], none, false, false, [119, 120]⟩,
   ⟨some 122, .fa 1 (.t 5), none, false, false, []⟩,
   ⟨none, .st 1 (.t 122) (.t 121), none, false, false, [121, 122]⟩])
  (.skip)))
 (.seq (.seq (.ops 24 false [⟨some 123, .fa 1 (.t 5), none, false, false, []⟩,
  ⟨some 124, .ld none [] (.t 123), none, false, false, [123]⟩,
  ⟨some 125, .bin .neq (.t 124) (.c (.int .i64 0)), none, false, false, [124]⟩])
 (.cond (.t 125)
  (.seq (.ops 25 true [⟨some 126, .build [.int .i64 0, .int .i64 0, .int .i64 0, .int .i64 0, .int .i64 0, .int .i64 0, .int .i64 0, .nils] [], none, false, false, []⟩,
   ⟨some 127, .build [.int .i64 0, .int .i64 0, .int .i64 0, .nils, .nils, .nils, .nils, .nils] [], none, false, false, []⟩,
   ⟨some 128, .fa 1 (.t 5), none, false, true, [5]⟩,
   ⟨some 129, .ld none [] (.t 128), none, false, true, [128]⟩,
   ⟨none, .st 8 (.t 2) (.t 126), none, false, false, [126]⟩,
   ⟨none, .st 8 (.t 3) (.t 127), none, false, false, [127]⟩,
   ⟨some 4, .mv (.t 129), none, false, false, [129]⟩])
  (.ret))
  (.skip)))
 (.seq (.ops 26 true [⟨some 130, .ld (some 8) [] (.t 6), none, false, false, [6]⟩,
  ⟨some 131, .ld (some 8) [] (.t 7), none, false, true, [7]⟩,
  ⟨none, .st 8 (.t 2) (.t 130), none, false, false, [130]⟩,
  ⟨none, .st 8 (.t 3) (.t 131), none, false, false, [131]⟩,
  ⟨some 4, .mv (.c (.int .i64 0)), none, false, false, []⟩])
 (.ret))))))))))))))))))))))))
def rs_r32_Decode : List IRes := [.cell 2 (some 8), .cell 3 (some 8), .t 4]
theorem ok_r32_Decode : fnOk Tryz.prog 10 ic_r32_Decode rs_r32_Decode 132 = true := by kernel_rfl

/-- tallyman/tallymanlaw32.alive -/
def ic_l32_alive : ICode :=
 .seq (.ops 0 false [⟨some 0, .mv (.c (.bool false)), none, false, false, [0]⟩])
 (.seq (.ops 1 false [⟨some 10, .build [.int .i64 0, .int .i64 0, .int .i64 0, .int .i64 0, .int .i64 0, .int .i64 0, .int .i64 0, .nils] [(0, 1, .c (.int .i64 2)), (1, 1, .c (.int .i64 1)), (2, 1, .c (.int .i64 1)), (3, 1, .c (.int .i64 3)), (4, 1, .c (.int .i64 2))], none, false, false, []⟩,
  ⟨some 1, .alloc [.int .i64 0, .int .i64 0, .int .i64 0, .int .i64 0, .int .i64 0, .int .i64 0, .int .i64 0, .nils], none, false, false, []⟩,
  ⟨none, .st 8 (.t 1) (.t 10), none, false, false, [10]⟩])
 (.seq (.ops 2 false [⟨some 12, .ld (some 8) [] (.t 1), none, false, false, []⟩,
  ⟨some 13, .build [.int .i64 0, .int .i64 0, .int .i64 0, .nils, .nils, .nils, .nils, .nils] [], none, false, false, []⟩,
  ⟨some 14, .call (.c (.fn 7 [] [])) [.t 12, .t 13], none, false, false, [12, 13]⟩,
  ⟨some 11, .mv (.t 14), none, false, false, [14]⟩,
  ⟨some 15, .ext 0 (.t 11), none, false, false, []⟩,
  ⟨some 16, .ext 1 (.t 11), none, false, false, [11]⟩,
  ⟨some 2, .mv (.t 15), none, false, false, [15]⟩,
  ⟨some 3, .mv (.t 16), none, false, false, [16]⟩])
 (.seq (.ops 3 false [⟨some 18, .mv (.t 2), none, false, false, []⟩,
  ⟨some 19, .call (.c (.fn 9 [] [])) [.t 18], none, false, false, [18]⟩,
  ⟨some 17, .mv (.t 19), none, false, false, [19]⟩,
  ⟨some 20, .ext 0 (.t 17), none, false, false, []⟩,
  ⟨some 21, .ext 1 (.t 17), none, false, false, []⟩,
  ⟨some 22, .ext 2 (.t 17), none, false, false, [17]⟩,
  ⟨some 4, .alloc [.int .i64 0, .int .i64 0, .int .i64 0, .int .i64 0, .int .i64 0, .int .i64 0, .int .i64 0, .nils], none, false, false, []⟩,
  ⟨some 5, .alloc [.int .i64 0, .int .i64 0, .int .i64 0, .nils, .nils, .nils, .nils, .nils], none, false, false, []⟩,
  ⟨none, .st 8 (.t 4) (.t 20), none, false, false, [20]⟩,
  ⟨none, .st 8 (.t 5) (.t 21), none, false, false, [21]⟩,
  ⟨some 6, .mv (.t 22), none, false, false, [22]⟩])
 (.seq (.ops 4 false [⟨some 24, .rowView 1 [.c (.int .u8 1)], none, false, false, []⟩,
  ⟨some 25, .call (.c (.fn 9 [] [])) [.t 24], none, false, false, [24]⟩,
  ⟨some 23, .mv (.t 25), none, false, false, [25]⟩,
  ⟨some 26, .ext 0 (.t 23), none, false, false, []⟩,
  ⟨some 27, .ext 1 (.t 23), none, false, false, []⟩,
  ⟨some 28, .ext 2 (.t 23), none, false, false, [23]⟩,
  ⟨some 7, .alloc [.int .i64 0, .int .i64 0, .int .i64 0, .int .i64 0, .int .i64 0, .int .i64 0, .int .i64 0, .nils], none, false, false, []⟩,
  ⟨some 8, .alloc [.int .i64 0, .int .i64 0, .int .i64 0, .nils, .nils, .nils, .nils, .nils], none, false, false, []⟩,
  ⟨none, .st 8 (.t 7) (.t 26), none, false, false, [7, 26]⟩,
  ⟨none, .st 8 (.t 8) (.t 27), none, false, false, [8, 27]⟩,
  ⟨some 9, .mv (.t 28), none, false, false, [28]⟩])
 (.seq (.ops 5 false [⟨some 29, .mv (.t 3), none, false, false, [3]⟩,
  ⟨some 30, .bin .eql (.t 29) (.c (.int .i64 0)), none, false, false, [29]⟩,
  ⟨some 31, .mv (.t 30), none, false, false, [30]⟩,
  ⟨some 32, .mv (.t 2), (some (31, true)), true, false, [2]⟩,
  ⟨some 33, .len (.o 32), (some (31, true)), true, false, [32]⟩,
  ⟨some 34, .bin .eql (.o 33) (.c (.int .i64 16)), (some (31, true)), true, false, [33]⟩,
  ⟨some 35, .pick (.t 31) (.t 34) (.c (.bool false)), none, false, false, [31, 34]⟩,
  ⟨some 36, .mv (.t 35), none, false, false, [35]⟩,
  ⟨some 37, .mv (.t 6), (some (36, true)), true, false, [6]⟩,
  ⟨some 38, .bin .eql (.o 37) (.c (.int .i64 0)), (some (36, true)), true, false, [37]⟩,
  ⟨some 39, .pick (.t 36) (.t 38) (.c (.bool false)), none, false, false, [36, 38]⟩,
  ⟨some 40, .mv (.t 39), none, false, false, [39]⟩,
  ⟨some 41, .ld (some 8) [] (.t 4), (some (40, true)), true, false, [4]⟩,
  ⟨some 42, .ld (some 8) [] (.t 1), (some (40, true)), true, false, [1]⟩,
  ⟨some 43, .call (.c (.fn 12 [] [])) [.o 41, .o 42], (some (40, true)), true, false, [41, 42]⟩,
  ⟨some 44, .pick (.t 40) (.t 43) (.c (.bool false)), none, false, false, [40, 43]⟩,
  ⟨some 45, .mv (.t 44), none, false, false, [44]⟩,
  ⟨some 46, .ld (some 8) [] (.t 5), (some (45, true)), true, false, [5]⟩,
  ⟨some 47, .build [.int .i64 0, .int .i64 0, .int .i64 0, .nils, .nils, .nils, .nils, .nils] [], (some (45, true)), true, false, []⟩,
  ⟨some 48, .call (.c (.fn 13 [] [])) [.o 46, .o 47], (some (45, true)), true, false, [46, 47]⟩,
  ⟨some 49, .pick (.t 45) (.t 48) (.c (.bool false)), none, false, false, [45, 48]⟩,
  ⟨some 50, .mv (.t 49), none, false, false, [49]⟩,
  ⟨some 51, .mv (.t 9), (some (50, true)), true, false, [9]⟩,
  ⟨some 52, .bin .eql (.o 51) (.c (.int .i64 4)), (some (50, true)), true, false, [51]⟩,
  ⟨some 53, .pick (.t 50) (.t 52) (.c (.bool false)), none, false, false, [50, 52]⟩,
  ⟨some 0, .mv (.t 53), none, false, false, [53]⟩])
 (.ret))))))
def rs_l32_alive : List IRes := [.t 0]
theorem ok_l32_alive : fnOk Tryz.prog 6 ic_l32_alive rs_l32_alive 54 = true := by kernel_rfl

/-- tallyman/tallymanlaw32.SnapCodes -/
def ic_l32_SnapCodes : ICode :=
 .seq (.ops 0 false [⟨some 3, .box (.t 0), none, false, false, [0]⟩,
  ⟨some 4, .box (.t 1), none, false, false, [1]⟩,
  ⟨some 6, .mv (.c (.bool false)), none, false, false, [6]⟩])
 (.seq (.seq (.ops 1 false [⟨some 17, .fa 7 (.t 3), none, false, false, []⟩,
  ⟨some 18, .ld none [] (.t 17), none, false, false, [17]⟩,
  ⟨some 19, .len (.t 18), none, false, false, [18]⟩,
  ⟨some 20, .bin .gtr (.t 19) (.c (.int .i64 40)), none, false, false, [19]⟩,
  ⟨some 21, .mv (.t 20), none, false, false, [20]⟩,
  ⟨some 22, .ld (some 8) [] (.t 4), (some (21, false)), true, false, []⟩,
  ⟨some 23, .call (.c (.fn 5 [] [])) [.o 22], (some (21, false)), true, false, [22]⟩,
  ⟨some 24, .not (.o 23), (some (21, false)), true, false, [23]⟩,
  ⟨some 25, .pick (.t 21) (.c (.bool true)) (.t 24), none, false, false, [21, 24]⟩,
  ⟨some 26, .mv (.t 25), none, false, false, [25]⟩,
  ⟨some 27, .mv (.t 2), (some (26, false)), true, false, []⟩,
  ⟨some 28, .len (.o 27), (some (26, false)), true, false, [27]⟩,
  ⟨some 29, .bin .gtr (.o 28) (.c (.int .i64 20000)), (some (26, false)), true, false, [28]⟩,
  ⟨some 30, .pick (.t 26) (.c (.bool true)) (.t 29), none, false, false, [26, 29]⟩])
 (.cond (.t 30)
  (.seq (.ops 2 false [⟨some 31, .call (.c (.fn 6 [] [])) [], none, false, false, []⟩,
   ⟨some 6, .mv (.t 31), none, false, false, [31]⟩])
  (.ret))
  (.skip)))
 (.seq (.ops 3 false [⟨some 33, .ld (some 8) [] (.t 3), none, false, false, []⟩,
  ⟨some 34, .ld (some 8) [] (.t 4), none, false, false, []⟩,
  ⟨some 35, .call (.c (.fn 7 [] [])) [.t 33, .t 34], none, false, false, [33, 34]⟩,
  ⟨some 32, .mv (.t 35), none, false, false, [35]⟩,
  ⟨some 36, .ext 0 (.t 32), none, false, false, []⟩,
  ⟨some 37, .ext 1 (.t 32), none, false, false, [32]⟩,
  ⟨some 7, .mv (.t 36), none, false, false, [36]⟩,
  ⟨some 8, .mv (.t 37), none, false, false, [37]⟩])
 (.seq (.ops 4 false [⟨some 39, .ld (some 8) [] (.t 3), none, false, false, [3]⟩,
  ⟨some 40, .ld (some 8) [] (.t 4), none, false, false, [4]⟩,
  ⟨some 41, .call (.c (.fn 8 [] [])) [.t 39, .t 40], none, false, false, [39, 40]⟩,
  ⟨some 38, .mv (.t 41), none, false, false, [41]⟩,
  ⟨some 42, .ext 0 (.t 38), none, false, false, []⟩,
  ⟨some 43, .ext 1 (.t 38), none, false, false, [38]⟩,
  ⟨some 9, .mv (.t 42), none, false, false, [42]⟩,
  ⟨some 10, .mv (.t 43), none, false, false, [43]⟩])
 (.seq (.ops 5 false [⟨some 45, .mv (.t 2), none, false, false, []⟩,
  ⟨some 46, .call (.c (.fn 9 [] [])) [.t 45], none, false, false, [45]⟩,
  ⟨some 44, .mv (.t 46), none, false, false, [46]⟩,
  ⟨some 47, .ext 0 (.t 44), none, false, false, []⟩,
  ⟨some 48, .ext 1 (.t 44), none, false, false, []⟩,
  ⟨some 49, .ext 2 (.t 44), none, false, false, [44]⟩,
  ⟨some 11, .alloc [.int .i64 0, .int .i64 0, .int .i64 0, .int .i64 0, .int .i64 0, .int .i64 0, .int .i64 0, .nils], none, false, false, []⟩,
  ⟨some 12, .alloc [.int .i64 0, .int .i64 0, .int .i64 0, .nils, .nils, .nils, .nils, .nils], none, false, false, []⟩,
  ⟨none, .st 8 (.t 11) (.t 47), none, false, false, [47]⟩,
  ⟨none, .st 8 (.t 12) (.t 48), none, false, false, [48]⟩,
  ⟨some 13, .mv (.t 49), none, false, false, [49]⟩])
 (.seq (.ops 6 false [⟨some 51, .mv (.t 2), none, false, false, [2]⟩,
  ⟨some 52, .call (.c (.fn 10 [] [])) [.t 51], none, false, false, [51]⟩,
  ⟨some 50, .mv (.t 52), none, false, false, [52]⟩,
  ⟨some 53, .ext 0 (.t 50), none, false, false, []⟩,
  ⟨some 54, .ext 1 (.t 50), none, false, false, []⟩,
  ⟨some 55, .ext 2 (.t 50), none, false, false, [50]⟩,
  ⟨some 14, .alloc [.int .i64 0, .int .i64 0, .int .i64 0, .int .i64 0, .int .i64 0, .int .i64 0, .int .i64 0, .nils], none, false, false, []⟩,
  ⟨some 15, .alloc [.int .i64 0, .int .i64 0, .int .i64 0, .nils, .nils, .nils, .nils, .nils], none, false, false, []⟩,
  ⟨none, .st 8 (.t 14) (.t 53), none, false, false, [53]⟩,
  ⟨none, .st 8 (.t 15) (.t 54), none, false, false, [54]⟩,
  ⟨some 16, .mv (.t 55), none, false, false, [55]⟩])
 (.seq (.ops 7 false [⟨some 56, .mv (.t 7), none, false, false, [7]⟩,
  ⟨some 57, .mv (.t 9), none, false, false, [9]⟩,
  ⟨some 58, .call (.c (.fn 11 [] [])) [.t 56, .t 57], none, false, false, [56, 57]⟩,
  ⟨some 59, .mv (.t 58), none, false, false, [58]⟩,
  ⟨some 60, .mv (.t 8), (some (59, true)), true, false, [8]⟩,
  ⟨some 61, .mv (.t 10), (some (59, true)), true, false, [10]⟩,
  ⟨some 62, .bin .eql (.o 60) (.o 61), (some (59, true)), true, false, [60, 61]⟩,
  ⟨some 63, .pick (.t 59) (.t 62) (.c (.bool false)), none, false, false, [59, 62]⟩,
  ⟨some 64, .mv (.t 63), none, false, false, [63]⟩,
  ⟨some 65, .ld (some 8) [] (.t 11), (some (64, true)), true, false, [11]⟩,
  ⟨some 66, .ld (some 8) [] (.t 14), (some (64, true)), true, false, [14]⟩,
  ⟨some 67, .call (.c (.fn 12 [] [])) [.o 65, .o 66], (some (64, true)), true, false, [65, 66]⟩,
  ⟨some 68, .pick (.t 64) (.t 67) (.c (.bool false)), none, false, false, [64, 67]⟩,
  ⟨some 69, .mv (.t 68), none, false, false, [68]⟩,
  ⟨some 70, .ld (some 8) [] (.t 12), (some (69, true)), true, false, [12]⟩,
  ⟨some 71, .ld (some 8) [] (.t 15), (some (69, true)), true, false, [15]⟩,
  ⟨some 72, .call (.c (.fn 13 [] [])) [.o 70, .o 71], (some (69, true)), true, false, [70, 71]⟩,
  ⟨some 73, .pick (.t 69) (.t 72) (.c (.bool false)), none, false, false, [69, 72]⟩,
  ⟨some 74, .mv (.t 73), none, false, false, [73]⟩,
  ⟨some 75, .mv (.t 13), (some (74, true)), true, false, [13]⟩,
  ⟨some 76, .mv (.t 16), (some (74, true)), true, false, [16]⟩,
  ⟨some 77, .bin .eql (.o 75) (.o 76), (some (74, true)), true, false, [75, 76]⟩,
  ⟨some 78, .pick (.t 74) (.t 77) (.c (.bool false)), none, false, false, [74, 77]⟩,
  ⟨some 79, .mv (.t 78), none, false, false, [78]⟩,
  ⟨some 80, .call (.c (.fn 6 [] [])) [], (some (79, true)), true, false, []⟩,
  ⟨some 81, .pick (.t 79) (.t 80) (.c (.bool false)), none, false, false, [79, 80]⟩,
  ⟨some 6, .mv (.t 81), none, false, false, [81]⟩])
 (.ret)))))))
def rs_l32_SnapCodes : List IRes := [.t 6]
theorem ok_l32_SnapCodes : fnOk Tryz.prog 3 ic_l32_SnapCodes rs_l32_SnapCodes 82 = true := by kernel_rfl

/-- tallyman/tallymanref22.SameRules -/
def ic_r22_SameRules : ICode :=
 .seq (.ops 0 false [⟨some 2, .box (.t 0), none, false, false, [0]⟩,
  ⟨some 3, .box (.t 1), none, false, false, [1]⟩,
  ⟨some 4, .mv (.c (.bool false)), none, false, false, [4]⟩])
 (.seq (.ops 1 false [⟨some 5, .fa 0 (.t 2), none, false, false, []⟩,
  ⟨some 6, .ld none [] (.t 5), none, false, false, [5]⟩,
  ⟨some 7, .fa 0 (.t 3), none, false, false, []⟩,
  ⟨some 8, .ld none [] (.t 7), none, false, false, [7]⟩,
  ⟨some 9, .bin .eql (.t 6) (.t 8), none, false, false, [6, 8]⟩,
  ⟨some 10, .mv (.t 9), none, false, false, [9]⟩,
  ⟨some 11, .fa 1 (.t 2), (some (10, true)), true, false, []⟩,
  ⟨some 12, .ld none [] (.o 11), (some (10, true)), true, false, [11]⟩,
  ⟨some 13, .fa 1 (.t 3), (some (10, true)), true, false, []⟩,
  ⟨some 14, .ld none [] (.o 13), (some (10, true)), true, false, [13]⟩,
  ⟨some 15, .bin .eql (.o 12) (.o 14), (some (10, true)), true, false, [12, 14]⟩,
  ⟨some 16, .pick (.t 10) (.t 15) (.c (.bool false)), none, false, false, [10, 15]⟩,
  ⟨some 17, .mv (.t 16), none, false, false, [16]⟩,
  ⟨some 18, .fa 2 (.t 2), (some (17, true)), true, false, []⟩,
  ⟨some 19, .ld none [] (.o 18), (some (17, true)), true, false, [18]⟩,
  ⟨some 20, .fa 2 (.t 3), (some (17, true)), true, false, []⟩,
  ⟨some 21, .ld none [] (.o 20), (some (17, true)), true, false, [20]⟩,
  ⟨some 22, .bin .eql (.o 19) (.o 21), (some (17, true)), true, false, [19, 21]⟩,
  ⟨some 23, .pick (.t 17) (.t 22) (.c (.bool false)), none, false, false, [17, 22]⟩,
  ⟨some 24, .mv (.t 23), none, false, false, [23]⟩,
  ⟨some 25, .fa 3 (.t 2), (some (24, true)), true, false, []⟩,
  ⟨some 26, .ld none [] (.o 25), (some (24, true)), true, false, [25]⟩,
  ⟨some 27, .fa 3 (.t 3), (some (24, true)), true, false, []⟩,
  ⟨some 28, .ld none [] (.o 27), (some (24, true)), true, false, [27]⟩,
  ⟨some 29, .bin .eql (.o 26) (.o 28), (some (24, true)), true, false, [26, 28]⟩,
  ⟨some 30, .pick (.t 24) (.t 29) (.c (.bool false)), none, false, false, [24, 29]⟩,
  ⟨some 31, .mv (.t 30), none, false, false, [30]⟩,
  ⟨some 32, .fa 4 (.t 2), (some (31, true)), true, false, []⟩,
  ⟨some 33, .ld none [] (.o 32), (some (31, true)), true, false, [32]⟩,
  ⟨some 34, .fa 4 (.t 3), (some (31, true)), true, false, []⟩,
  ⟨some 35, .ld none [] (.o 34), (some (31, true)), true, false, [34]⟩,
  ⟨some 36, .bin .eql (.o 33) (.o 35), (some (31, true)), true, false, [33, 35]⟩,
  ⟨some 37, .pick (.t 31) (.t 36) (.c (.bool false)), none, false, false, [31, 36]⟩,
  ⟨some 38, .mv (.t 37), none, false, false, [37]⟩,
  ⟨some 39, .fa 5 (.t 2), (some (38, true)), true, false, []⟩,
  ⟨some 40, .ld none [] (.o 39), (some (38, true)), true, false, [39]⟩,
  ⟨some 41, .fa 5 (.t 3), (some (38, true)), true, false, []⟩,
  ⟨some 42, .ld none [] (.o 41), (some (38, true)), true, false, [41]⟩,
  ⟨some 43, .bin .eql (.o 40) (.o 42), (some (38, true)), true, false, [40, 42]⟩,
  ⟨some 44, .pick (.t 38) (.t 43) (.c (.bool false)), none, false, false, [38, 43]⟩,
  ⟨some 45, .mv (.t 44), none, false, false, [44]⟩,
  ⟨some 46, .fa 6 (.t 2), (some (45, true)), true, false, []⟩,
  ⟨some 47, .ld none [] (.o 46), (some (45, true)), true, false, [46]⟩,
  ⟨some 48, .fa 6 (.t 3), (some (45, true)), true, false, []⟩,
  ⟨some 49, .ld none [] (.o 48), (some (45, true)), true, false, [48]⟩,
  ⟨some 50, .bin .eql (.o 47) (.o 49), (some (45, true)), true, false, [47, 49]⟩,
  ⟨some 51, .pick (.t 45) (.t 50) (.c (.bool false)), none, false, false, [45, 50]⟩,
  ⟨some 52, .mv (.t 51), none, false, false, [51]⟩,
  ⟨some 53, .fa 7 (.t 2), (some (52, true)), true, false, [2]⟩,
  ⟨some 54, .ld none [] (.o 53), (some (52, true)), true, false, [53]⟩,
  ⟨some 55, .fa 7 (.t 3), (some (52, true)), true, false, [3]⟩,
  ⟨some 56, .ld none [] (.o 55), (some (52, true)), true, false, [55]⟩,
  ⟨some 57, .call (.c (.fn 45 [] [])) [.o 54, .o 56], (some (52, true)), true, false, [54, 56]⟩,
  ⟨some 58, .pick (.t 52) (.t 57) (.c (.bool false)), none, false, false, [52, 57]⟩,
  ⟨some 4, .mv (.t 58), none, false, false, [58]⟩])
 (.ret))
def rs_r22_SameRules : List IRes := [.t 4]
theorem ok_r22_SameRules : fnOk Tryz.prog 12 ic_r22_SameRules rs_r22_SameRules 59 = true := by kernel_rfl

/-- tallyman/tallymanref07.Same -/
def ic_r07_Same : ICode :=
 .seq (.ops 0 false [⟨some 4, .mv (.c (.bool false)), none, false, false, [4]⟩])
 (.seq (.seq (.ops 1 false [⟨some 6, .mv (.t 0), none, false, false, []⟩,
  ⟨some 7, .len (.t 6), none, false, false, [6]⟩,
  ⟨some 8, .mv (.t 1), none, false, false, []⟩,
  ⟨some 9, .len (.t 8), none, false, false, [8]⟩,
  ⟨some 10, .bin .neq (.t 7) (.t 9), none, false, false, [7, 9]⟩])
 (.cond (.t 10)
  (.seq (.ops 2 false [⟨some 4, .mv (.c (.bool false)), none, false, false, []⟩])
  (.ret))
  (.skip)))
 (.seq (.seq (.ops 3 false [⟨some 5, .mv (.c (.int .i64 0)), none, false, false, []⟩])
 (.block 0 (.loop [0, 1, 5] (.seq (.seq (.ops 4 false [⟨some 11, .mv (.t 5), none, false, false, []⟩,
    ⟨some 12, .mv (.t 0), none, false, false, []⟩,
    ⟨some 13, .len (.t 12), none, false, false, [12]⟩,
    ⟨some 14, .bin .lss (.t 11) (.t 13), none, false, false, [11, 13]⟩])
   (.cond (.t 14)
    (.skip)
    (.exit 0)))
   (.seq (.block 1 (.seq (.ops 6 true [⟨some 17, .mv (.t 0), none, false, false, []⟩,
     ⟨some 18, .mv (.t 5), none, false, false, []⟩,
     ⟨some 19, .ia 5 [.int .i64 0, .int .i64 0, .int .i64 0, .int .i64 0, .int .i64 0] (.t 17) (.t 18), none, false, false, [17, 18]⟩,
     ⟨some 20, .ld (some 5) [.int .i64 0, .int .i64 0, .int .i64 0, .int .i64 0, .int .i64 0] (.t 19), none, false, false, [19]⟩,
     ⟨some 21, .mv (.t 1), none, false, false, []⟩,
     ⟨some 22, .mv (.t 5), none, false, false, []⟩,
     ⟨some 23, .ia 5 [.int .i64 0, .int .i64 0, .int .i64 0, .int .i64 0, .int .i64 0] (.t 21) (.t 22), none, false, false, [21, 22]⟩,
     ⟨some 24, .ld (some 5) [.int .i64 0, .int .i64 0, .int .i64 0, .int .i64 0, .int .i64 0] (.t 23), none, false, false, [23]⟩,
     ⟨some 25, .eqc true [false, false, false, false, false] (.t 20) (.t 24), none, false, false, [20, 24]⟩])
    (.cond (.t 25)
     (.seq (.ops 7 false [⟨some 4, .mv (.c (.bool false)), none, false, false, []⟩])
     (.ret))
     (.skip))))
   (.ops 5 false [⟨some 15, .mv (.t 5), none, false, false, [5]⟩,
    ⟨some 16, .bin .add (.t 15) (.c (.int .i64 1)), none, false, false, [15]⟩,
    ⟨some 5, .mv (.t 16), none, false, false, [16]⟩]))))))
 (.seq (.ops 8 false [⟨some 4, .mv (.c (.bool true)), none, false, false, []⟩])
 (.ret))))
def rs_r07_Same : List IRes := [.t 4]
theorem ok_r07_Same : fnOk Tryz.prog 45 ic_r07_Same rs_r07_Same 26 = true := by kernel_rfl

end Go.Proofs.YtnckibgcjgeekaaGreat.Sx
