/- Functions of the seat in the small language. No conditions: a kit of our own. -/
import Derived.Test.YtnckibgcjgeekaaGreatProg
import Derived.Test.YtnckibgcjgeekaaGreatSx17
namespace Go.Proofs.YtnckibgcjgeekaaGreat.Sx
open Go Go.RowKit
set_option linter.unusedVariables false

/-- (*tallyman/code.reader).fail -/
def ic_code_reader_fail : ICode :=
 .seq (.ops 0 false [⟨some 4, .mv (.t 0), none, false, false, []⟩,
  ⟨some 5, .nilc (.t 4), none, false, false, [4]⟩,
  ⟨some 6, .fa 1 (.t 5), none, false, false, [5]⟩,
  ⟨some 7, .ld none [] (.t 6), none, false, false, [6]⟩,
  ⟨some 8, .bin .eql (.t 7) (.c (.int .i64 0)), none, false, false, [7]⟩])
 (.cond (.t 8)
  (.ops 1 false [⟨some 9, .mv (.t 0), none, false, false, []⟩,
   ⟨some 10, .mv (.t 0), none, false, false, [0]⟩,
   ⟨some 11, .mv (.t 1), none, false, false, [1]⟩,
   ⟨some 12, .nilc (.t 9), none, false, false, [9]⟩,
   ⟨some 13, .fa 0 (.t 12), none, false, false, [12]⟩,
   ⟨none, .st 1 (.t 13) (.c (.nils)), none, false, false, [13]⟩,
   ⟨some 14, .nilc (.t 10), none, false, false, [10]⟩,
   ⟨some 15, .fa 1 (.t 14), none, false, false, [14]⟩,
   ⟨none, .st 1 (.t 15) (.t 11), none, false, false, [11, 15]⟩])
  (.skip))
def rs_code_reader_fail : List IRes := []
theorem ok_code_reader_fail : fnOk Tryz.prog 155 ic_code_reader_fail rs_code_reader_fail 16 = true := by kernel_rfl

/-- (*tallyman/code.reader).int -/
def ic_code_reader_int : ICode :=
 .seq (.ops 0 false [⟨some 2, .mv (.c (.int .i64 0)), none, false, false, [2]⟩])
 (.seq (.ops 1 false [⟨some 4, .mv (.t 0), none, false, false, []⟩,
  ⟨some 5, .call (.c (.fn 151 [] [])) [.t 4], none, false, false, [4]⟩,
  ⟨some 3, .mv (.t 5), none, false, false, [5]⟩])
 (.seq (.seq (.ops 2 false [⟨some 6, .mv (.t 3), none, false, false, []⟩,
  ⟨some 7, .bin .gtr (.t 6) (.c (.int .u64 4294967295)), none, false, false, [6]⟩])
 (.cond (.t 7)
  (.seq (.ops 3 false [⟨some 8, .mv (.t 0), none, false, false, [0]⟩,
   ⟨some 9, .call (.c (.fn 155 [] [])) [.t 8, .c (.int .i64 2)], none, false, false, [8, 9]⟩])
  (.seq (.ops 4 false [⟨some 2, .mv (.c (.int .i64 0)), none, false, false, []⟩])
  (.ret)))
  (.skip)))
 (.seq (.ops 5 false [⟨some 10, .mv (.t 3), none, false, false, [3]⟩,
  ⟨some 11, .cvw .i64 (.t 10), none, false, false, [10]⟩,
  ⟨some 2, .mv (.t 11), none, false, false, [11]⟩])
 (.ret))))
def rs_code_reader_int : List IRes := [.t 2]
theorem ok_code_reader_int : fnOk Tryz.prog 150 ic_code_reader_int rs_code_reader_int 12 = true := by kernel_rfl

/-- (*tallyman/code.reader).many -/
def ic_code_reader_many : ICode :=
 .seq (.ops 0 false [⟨some 6, .mv (.c (.int .i64 0)), none, false, false, [6]⟩])
 (.seq (.ops 1 false [⟨some 8, .mv (.t 0), none, false, false, []⟩,
  ⟨some 9, .call (.c (.fn 150 [] [])) [.t 8], none, false, false, [8]⟩,
  ⟨some 7, .mv (.t 9), none, false, false, [9]⟩])
 (.seq (.seq (.ops 2 false [⟨some 10, .mv (.t 7), none, false, false, []⟩,
  ⟨some 11, .mv (.t 1), none, false, false, [1]⟩,
  ⟨some 12, .bin .gtr (.t 10) (.t 11), none, false, false, [10, 11]⟩])
 (.cond (.t 12)
  (.seq (.ops 3 false [⟨some 13, .mv (.t 0), none, false, false, [0]⟩,
   ⟨some 14, .mv (.t 2), none, false, false, [2]⟩,
   ⟨some 15, .call (.c (.fn 155 [] [])) [.t 13, .t 14], none, false, false, [13, 14, 15]⟩])
  (.seq (.ops 4 false [⟨some 6, .mv (.c (.int .i64 0)), none, false, false, []⟩])
  (.ret)))
  (.skip)))
 (.seq (.ops 5 false [⟨some 16, .mv (.t 7), none, false, false, [7]⟩,
  ⟨some 6, .mv (.t 16), none, false, false, [16]⟩])
 (.ret))))
def rs_code_reader_many : List IRes := [.t 6]
theorem ok_code_reader_many : fnOk Tryz.prog 153 ic_code_reader_many rs_code_reader_many 17 = true := by kernel_rfl

/-- (*tallyman/code.reader).spec -/
def ic_code_reader_spec : ICode :=
 .seq (.ops 0 false [⟨some 2, .alloc [.int .i64 0, .int .i64 0, .int .u64 0, .int .u64 0, .int .i64 0, .int .i64 0, .int .i64 0, .int .i64 0, .nils], none, false, false, []⟩])
 (.back [0, 2, 3, 4] (.seq (.ops 1 false [⟨some 3, .alloc [.int .i64 0, .int .i64 0, .int .u64 0, .int .u64 0, .int .i64 0, .int .i64 0, .int .i64 0, .int .i64 0, .nils], none, false, false, []⟩])
 (.seq (.ops 2 false [⟨some 5, .mv (.t 0), none, false, false, []⟩,
   ⟨some 6, .call (.c (.fn 150 [] [])) [.t 5], none, false, false, [5]⟩,
   ⟨some 7, .mv (.t 0), none, false, false, []⟩,
   ⟨some 8, .call (.c (.fn 150 [] [])) [.t 7], none, false, false, [7]⟩,
   ⟨some 9, .fa 0 (.t 3), none, false, false, []⟩,
   ⟨none, .st 1 (.t 9) (.t 6), none, false, false, [6, 9]⟩,
   ⟨some 10, .fa 1 (.t 3), none, false, false, []⟩,
   ⟨none, .st 1 (.t 10) (.t 8), none, false, false, [8, 10]⟩])
 (.seq (.ops 3 false [⟨some 11, .mv (.t 0), none, false, false, []⟩,
   ⟨some 12, .call (.c (.fn 151 [] [])) [.t 11], none, false, false, [11]⟩,
   ⟨some 13, .mv (.t 0), none, false, false, []⟩,
   ⟨some 14, .call (.c (.fn 151 [] [])) [.t 13], none, false, false, [13]⟩,
   ⟨some 15, .fa 2 (.t 3), none, false, false, []⟩,
   ⟨none, .st 1 (.t 15) (.t 12), none, false, false, [12, 15]⟩,
   ⟨some 16, .fa 3 (.t 3), none, false, false, []⟩,
   ⟨none, .st 1 (.t 16) (.t 14), none, false, false, [14, 16]⟩])
 (.seq (.ops 4 false [⟨some 17, .mv (.t 0), none, false, false, []⟩,
   ⟨some 18, .call (.c (.fn 152 [] [])) [.t 17], none, false, false, [17]⟩,
   ⟨some 19, .mv (.t 0), none, false, false, []⟩,
   ⟨some 20, .call (.c (.fn 152 [] [])) [.t 19], none, false, false, [19]⟩,
   ⟨some 21, .fa 4 (.t 3), none, false, false, []⟩,
   ⟨some 22, .fa 0 (.t 21), none, false, false, [21]⟩,
   ⟨none, .st 1 (.t 22) (.t 18), none, false, false, [18, 22]⟩,
   ⟨some 23, .fa 4 (.t 3), none, false, false, []⟩,
   ⟨some 24, .fa 1 (.t 23), none, false, false, [23]⟩,
   ⟨none, .st 1 (.t 24) (.t 20), none, false, false, [20, 24]⟩])
 (.seq (.ops 5 false [⟨some 25, .mv (.t 0), none, false, false, []⟩,
   ⟨some 26, .call (.c (.fn 152 [] [])) [.t 25], none, false, false, [25]⟩,
   ⟨some 27, .mv (.t 0), none, false, false, []⟩,
   ⟨some 28, .call (.c (.fn 152 [] [])) [.t 27], none, false, false, [27]⟩,
   ⟨some 29, .fa 6 (.t 3), none, false, false, []⟩,
   ⟨some 30, .fa 0 (.t 29), none, false, false, [29]⟩,
   ⟨none, .st 1 (.t 30) (.t 26), none, false, false, [26, 30]⟩,
   ⟨some 31, .fa 6 (.t 3), none, false, false, []⟩,
   ⟨some 32, .fa 1 (.t 31), none, false, false, [31]⟩,
   ⟨none, .st 1 (.t 32) (.t 28), none, false, false, [28, 32]⟩])
 (.seq (.ops 6 false [⟨some 33, .mv (.t 0), none, false, false, []⟩,
   ⟨some 34, .call (.c (.fn 153 [] [])) [.t 33, .c (.int .i64 8), .c (.int .i64 1)], none, false, false, [33]⟩,
   ⟨some 4, .mv (.t 34), none, false, false, [34]⟩])
 (.label 0))))))) 0
  (.seq (.seq (.ops 7 false [⟨some 35, .mv (.t 0), none, false, false, []⟩,
   ⟨some 36, .nilc (.t 35), none, false, false, [35]⟩,
   ⟨some 37, .fa 1 (.t 36), none, false, false, [36]⟩,
   ⟨some 38, .ld none [] (.t 37), none, false, false, [37]⟩,
   ⟨some 39, .bin .neq (.t 38) (.c (.int .i64 0)), none, false, false, [38]⟩])
  (.cond (.t 39)
   (.seq (.ops 8 false [⟨some 40, .build [.int .i64 0, .int .i64 0, .int .u64 0, .int .u64 0, .int .i64 0, .int .i64 0, .int .i64 0, .int .i64 0, .nils] [], none, false, false, []⟩,
    ⟨none, .st 9 (.t 2) (.t 40), none, false, false, [40]⟩])
   (.ret))
   (.skip)))
  (.seq (.seq (.ops 9 false [⟨some 41, .mv (.t 4), none, false, false, []⟩,
   ⟨some 42, .bin .gtr (.t 41) (.c (.int .i64 0)), none, false, false, [41]⟩])
  (.cond (.t 42)
   (.seq (.ops 10 true [⟨some 43, .fa 8 (.t 3), none, false, true, []⟩,
    ⟨some 44, .ld none [] (.t 43), none, false, true, [43]⟩,
    ⟨some 45, .mv (.t 0), none, false, false, []⟩,
    ⟨some 46, .call (.c (.fn 150 [] [])) [.t 45], none, true, false, [45]⟩,
    ⟨some 47, .rowView 1 [.t 46], none, false, false, [46]⟩,
    ⟨some 48, .app 1 (.t 44) (.t 47), none, false, false, [44, 47]⟩,
    ⟨some 49, .fa 8 (.t 3), none, false, false, []⟩,
    ⟨none, .st 1 (.t 49) (.t 48), none, false, false, [48, 49]⟩])
   (.seq (.ops 11 false [⟨some 50, .mv (.t 4), none, false, false, [4]⟩,
    ⟨some 51, .bin .sub (.t 50) (.c (.int .i64 1)), none, false, false, [50]⟩,
    ⟨some 4, .mv (.t 51), none, false, false, [51]⟩])
   (.goto 0)))
   (.skip)))
  (.seq (.ops 12 false [⟨some 52, .ld (some 9) [] (.t 3), none, false, false, [3]⟩,
   ⟨none, .st 9 (.t 2) (.t 52), none, false, false, [52]⟩])
  (.ret)))))
def rs_code_reader_spec : List IRes := [.cell 2 (some 9)]
theorem ok_code_reader_spec : fnOk Tryz.prog 144 ic_code_reader_spec rs_code_reader_spec 53 = true := by kernel_rfl

/-- (*tallyman/code.reader).word -/
def ic_code_reader_word : ICode :=
 .seq (.ops 0 false [⟨some 2, .mv (.c (.int .u64 0)), none, false, false, [2]⟩])
 (.seq (.seq (.ops 1 false [⟨some 6, .mv (.t 0), none, false, false, []⟩,
  ⟨some 7, .nilc (.t 6), none, false, false, [6]⟩,
  ⟨some 8, .fa 1 (.t 7), none, false, false, [7]⟩,
  ⟨some 9, .ld none [] (.t 8), none, false, false, [8]⟩,
  ⟨some 10, .bin .neq (.t 9) (.c (.int .i64 0)), none, false, false, [9]⟩])
 (.cond (.t 10)
  (.seq (.ops 2 false [⟨some 2, .mv (.c (.int .u64 0)), none, false, false, []⟩])
  (.ret))
  (.skip)))
 (.seq (.ops 3 false [⟨some 12, .mv (.t 0), none, false, false, []⟩,
  ⟨some 13, .nilc (.t 12), none, false, false, [12]⟩,
  ⟨some 14, .fa 0 (.t 13), none, false, false, [13]⟩,
  ⟨some 15, .ld none [] (.t 14), none, false, false, [14]⟩,
  ⟨some 16, .call (.c (.fn 126 [] [])) [.t 15], none, false, false, [15]⟩,
  ⟨some 11, .mv (.t 16), none, false, false, [16]⟩,
  ⟨some 17, .ext 0 (.t 11), none, false, false, []⟩,
  ⟨some 18, .ext 1 (.t 11), none, false, false, []⟩,
  ⟨some 19, .ext 2 (.t 11), none, false, false, [11]⟩,
  ⟨some 3, .mv (.t 17), none, false, false, [17]⟩,
  ⟨some 4, .mv (.t 18), none, false, false, [18]⟩,
  ⟨some 5, .mv (.t 19), none, false, false, [19]⟩])
 (.seq (.seq (.ops 4 false [⟨some 20, .mv (.t 5), none, false, false, []⟩,
  ⟨some 21, .bin .neq (.t 20) (.c (.int .i64 0)), none, false, false, [20]⟩])
 (.cond (.t 21)
  (.seq (.ops 5 false [⟨some 22, .mv (.t 0), none, false, false, [0]⟩,
   ⟨some 23, .mv (.t 5), none, false, false, [5]⟩,
   ⟨some 24, .call (.c (.fn 155 [] [])) [.t 22, .t 23], none, false, false, [22, 23, 24]⟩])
  (.seq (.ops 6 false [⟨some 2, .mv (.c (.int .u64 0)), none, false, false, []⟩])
  (.ret)))
  (.skip)))
 (.seq (.ops 7 false [⟨some 25, .mv (.t 0), none, false, false, [0]⟩,
  ⟨some 26, .mv (.t 4), none, false, false, [4]⟩,
  ⟨some 27, .nilc (.t 25), none, false, false, [25]⟩,
  ⟨some 28, .fa 0 (.t 27), none, false, false, [27]⟩,
  ⟨none, .st 1 (.t 28) (.t 26), none, false, false, [26, 28]⟩])
 (.seq (.ops 8 false [⟨some 29, .mv (.t 3), none, false, false, [3]⟩,
  ⟨some 2, .mv (.t 29), none, false, false, [29]⟩])
 (.ret))))))
def rs_code_reader_word : List IRes := [.t 2]
theorem ok_code_reader_word : fnOk Tryz.prog 151 ic_code_reader_word rs_code_reader_word 30 = true := by kernel_rfl

/-- (*tallyman/code.reader).zig -/
def ic_code_reader_zig : ICode :=
 .seq (.ops 0 false [⟨some 2, .mv (.c (.int .i64 0)), none, false, false, [2]⟩])
 (.seq (.ops 1 false [⟨some 3, .mv (.t 0), none, false, false, [0]⟩,
  ⟨some 4, .call (.c (.fn 150 [] [])) [.t 3], none, false, false, [3]⟩,
  ⟨some 5, .cvw .u64 (.t 4), none, false, false, [4]⟩,
  ⟨some 6, .call (.c (.fn 124 [] [])) [.t 5], none, false, false, [5]⟩,
  ⟨some 2, .mv (.t 6), none, false, false, [6]⟩])
 (.ret))
def rs_code_reader_zig : List IRes := [.t 2]
theorem ok_code_reader_zig : fnOk Tryz.prog 152 ic_code_reader_zig rs_code_reader_zig 7 = true := by kernel_rfl

/-- slices.Clip(()byte,byte) -/
def ic_slices_Clip_byte_byte : ICode :=
 .seq (.ops 0 false [⟨some 2, .mv (.c (.nils)), none, false, false, [2]⟩])
 (.seq (.ops 1 false [⟨some 3, .mv (.t 0), none, false, false, []⟩,
  ⟨some 4, .mv (.t 0), none, false, false, []⟩,
  ⟨some 5, .len (.t 4), none, false, false, [4]⟩,
  ⟨some 6, .mv (.t 0), none, false, false, [0]⟩,
  ⟨some 7, .len (.t 6), none, false, false, [6]⟩,
  ⟨some 8, .slc3 1 (.t 3) (.t 5) (.t 7), none, false, false, [3, 5, 7]⟩,
  ⟨some 2, .mv (.t 8), none, false, false, [8]⟩])
 (.ret))
def rs_slices_Clip_byte_byte : List IRes := [.t 2]
theorem ok_slices_Clip_byte_byte : fnOk Tryz.prog 142 ic_slices_Clip_byte_byte rs_slices_Clip_byte_byte 9 = true := by kernel_rfl

/-- slices.Clone(()byte,byte) -/
def ic_slices_Clone_byte_byte : ICode :=
 .seq (.ops 0 false [⟨some 2, .mv (.c (.nils)), none, false, false, [2]⟩])
 (.seq (.seq (.ops 1 false [⟨some 3, .mv (.t 0), none, false, false, []⟩,
  ⟨some 4, .eqnil false .s (.t 3), none, true, false, [3]⟩])
 (.cond (.t 4)
  (.seq (.ops 2 false [⟨some 2, .mv (.c (.nils)), none, false, false, []⟩])
  (.ret))
  (.skip)))
 (.seq (.ops 3 false [⟨some 5, .rowOwn 1 [], none, false, false, []⟩,
  ⟨some 6, .mv (.t 0), none, false, false, [0]⟩,
  ⟨some 7, .app 1 (.t 5) (.t 6), none, false, false, [5, 6]⟩,
  ⟨some 2, .mv (.t 7), none, false, false, [7]⟩])
 (.ret)))
def rs_slices_Clone_byte_byte : List IRes := [.t 2]
theorem ok_slices_Clone_byte_byte : fnOk Tryz.prog 123 ic_slices_Clone_byte_byte rs_slices_Clone_byte_byte 8 = true := by kernel_rfl

/-- tallyman/code.PutSpec -/
def ic_code_PutSpec : ICode :=
 .seq (.ops 0 false [⟨some 3, .box (.t 1), none, false, false, [1]⟩,
  ⟨some 4, .mv (.c (.nils)), none, false, false, [4]⟩])
 (.seq (.ops 1 false [⟨some 7, .mv (.t 0), none, false, false, [0]⟩,
  ⟨some 8, .fa 0 (.t 3), none, false, false, []⟩,
  ⟨some 9, .ld none [] (.t 8), none, false, false, [8]⟩,
  ⟨some 10, .cvw .u64 (.t 9), none, false, false, [9]⟩,
  ⟨some 11, .fa 1 (.t 3), none, false, false, []⟩,
  ⟨some 12, .ld none [] (.t 11), none, false, false, [11]⟩,
  ⟨some 13, .cvw .u64 (.t 12), none, false, false, [12]⟩,
  ⟨some 14, .fa 2 (.t 3), none, false, false, []⟩,
  ⟨some 15, .ld none [] (.t 14), none, false, false, [14]⟩,
  ⟨some 16, .fa 3 (.t 3), none, false, false, []⟩,
  ⟨some 17, .ld none [] (.t 16), none, false, false, [16]⟩,
  ⟨some 18, .rowView 1 [.t 10, .t 13, .t 15, .t 17], none, false, false, [10, 13, 15, 17]⟩,
  ⟨some 19, .call (.c (.fn 60 [] [])) [.t 7, .t 18], none, false, false, [7, 18]⟩,
  ⟨some 0, .mv (.t 19), none, false, false, [19]⟩])
 (.seq (.ops 2 true [⟨some 20, .mv (.t 0), none, false, false, [0]⟩,
  ⟨some 21, .fa 4 (.t 3), none, false, false, []⟩,
  ⟨some 22, .fa 0 (.t 21), none, false, false, [21]⟩,
  ⟨some 23, .ld none [] (.t 22), none, false, false, [22]⟩,
  ⟨some 24, .call (.c (.fn 61 [] [])) [.t 23], none, false, false, [23]⟩,
  ⟨some 25, .fa 4 (.t 3), none, false, false, []⟩,
  ⟨some 26, .fa 1 (.t 25), none, false, false, [25]⟩,
  ⟨some 27, .ld none [] (.t 26), none, false, false, [26]⟩,
  ⟨some 28, .call (.c (.fn 61 [] [])) [.t 27], none, false, false, [27]⟩,
  ⟨some 29, .fa 6 (.t 3), none, false, false, []⟩,
  ⟨some 30, .fa 0 (.t 29), none, false, false, [29]⟩,
  ⟨some 31, .ld none [] (.t 30), none, false, false, [30]⟩,
  ⟨some 32, .call (.c (.fn 61 [] [])) [.t 31], none, false, false, [31]⟩,
  ⟨some 33, .fa 6 (.t 3), none, false, false, []⟩,
  ⟨some 34, .fa 1 (.t 33), none, false, false, [33]⟩,
  ⟨some 35, .ld none [] (.t 34), none, false, false, [34]⟩,
  ⟨some 36, .call (.c (.fn 61 [] [])) [.t 35], none, false, false, [35]⟩,
  ⟨some 37, .fa 8 (.t 3), none, false, false, []⟩,
  ⟨some 38, .ld none [] (.t 37), none, false, false, [37]⟩,
  ⟨some 39, .len (.t 38), none, false, false, [38]⟩,
  ⟨some 40, .cvw .u64 (.t 39), none, false, false, [39]⟩,
  ⟨some 41, .rowView 1 [.t 24, .t 28, .t 32, .t 36, .t 40], none, false, false, [24, 28, 32, 36, 40]⟩,
  ⟨some 42, .call (.c (.fn 60 [] [])) [.t 20, .t 41], none, false, false, [20, 41]⟩,
  ⟨some 0, .mv (.t 42), none, false, false, [42]⟩])
 (.seq (.seq (.ops 3 false [⟨some 43, .fa 8 (.t 3), none, false, false, [3]⟩,
  ⟨some 44, .ld none [] (.t 43), none, false, false, [43]⟩,
  ⟨some 45, .len (.t 44), none, false, false, []⟩,
  ⟨some 46, .mv (.c (.int .i64 0)), none, false, false, []⟩])
 (.block 0 (.loop [0, 44, 45, 46] (.seq (.ops 4 false [⟨some 47, .bin .lss (.t 46) (.t 45), none, false, false, []⟩])
   (.seq (.cond (.t 47)
    (.skip)
    (.exit 0))
   (.seq (.block 1 (.seq (.ops 5 false [⟨some 48, .ia 1 [.int .i64 0] (.t 44) (.t 46), none, false, false, []⟩,
     ⟨some 49, .ld none [.int .i64 0] (.t 48), none, false, false, [48]⟩,
     ⟨some 6, .mv (.t 49), none, false, false, [49]⟩])
    (.ops 6 false [⟨some 50, .mv (.t 0), none, false, false, [0]⟩,
     ⟨some 51, .mv (.t 6), none, false, false, [6]⟩,
     ⟨some 52, .cvw .u64 (.t 51), none, false, false, [51]⟩,
     ⟨some 53, .rowView 1 [.t 52], none, false, false, [52]⟩,
     ⟨some 54, .call (.c (.fn 60 [] [])) [.t 50, .t 53], none, false, false, [50, 53]⟩,
     ⟨some 0, .mv (.t 54), none, false, false, [54]⟩])))
   (.ops 7 false [⟨some 55, .bin .add (.t 46) (.c (.int .i64 1)), none, false, false, [46]⟩,
    ⟨some 46, .mv (.t 55), none, false, false, [55]⟩])))))))
 (.seq (.ops 8 false [⟨some 56, .mv (.t 0), none, false, false, [0]⟩,
  ⟨some 4, .mv (.t 56), none, false, false, [56]⟩])
 (.ret)))))
def rs_code_PutSpec : List IRes := [.t 4]
theorem ok_code_PutSpec : fnOk Tryz.prog 19 ic_code_PutSpec rs_code_PutSpec 57 = true := by kernel_rfl

/-- tallyman/code.TakeSpec -/
def ic_code_TakeSpec : ICode :=
 .seq (.ops 0 false [⟨some 2, .alloc [.int .i64 0, .int .i64 0, .int .u64 0, .int .u64 0, .int .i64 0, .int .i64 0, .int .i64 0, .int .i64 0, .nils], none, false, false, []⟩,
  ⟨some 3, .mv (.c (.nils)), none, false, false, [3]⟩,
  ⟨some 4, .mv (.c (.int .i64 0)), none, false, false, [4]⟩])
 (.seq (.ops 1 false [⟨some 7, .mv (.t 0), none, false, false, [0]⟩,
  ⟨some 8, .build [.nils, .int .i64 0] [(0, 1, .t 7)], none, false, false, [7]⟩,
  ⟨some 9, .box (.t 8), none, false, false, [8]⟩,
  ⟨some 5, .mv (.t 9), none, false, false, [9]⟩])
 (.seq (.ops 2 false [⟨some 10, .mv (.t 5), none, false, false, []⟩,
  ⟨some 11, .call (.c (.fn 144 [] [])) [.t 10], none, false, false, [10]⟩,
  ⟨some 6, .alloc [.int .i64 0, .int .i64 0, .int .u64 0, .int .u64 0, .int .i64 0, .int .i64 0, .int .i64 0, .int .i64 0, .nils], none, false, false, []⟩,
  ⟨none, .st 9 (.t 6) (.t 11), none, false, false, [11]⟩])
 (.seq (.ops 3 true [⟨some 12, .ld (some 9) [] (.t 6), none, false, false, [6]⟩,
  ⟨some 13, .mv (.t 5), none, false, false, []⟩,
  ⟨some 14, .nilc (.t 13), none, false, true, [13]⟩,
  ⟨some 15, .fa 0 (.t 14), none, false, true, [14]⟩,
  ⟨some 16, .ld none [] (.t 15), none, false, true, [15]⟩,
  ⟨some 17, .mv (.t 5), none, false, false, [5]⟩,
  ⟨some 18, .nilc (.t 17), none, false, true, [17]⟩,
  ⟨some 19, .fa 1 (.t 18), none, false, true, [18]⟩,
  ⟨some 20, .ld none [] (.t 19), none, false, true, [19]⟩,
  ⟨none, .st 9 (.t 2) (.t 12), none, false, false, [12]⟩,
  ⟨some 3, .mv (.t 16), none, false, false, [16]⟩,
  ⟨some 4, .mv (.t 20), none, false, false, [20]⟩])
 (.ret))))
def rs_code_TakeSpec : List IRes := [.cell 2 (some 9), .t 3, .t 4]
theorem ok_code_TakeSpec : fnOk Tryz.prog 125 ic_code_TakeSpec rs_code_TakeSpec 21 = true := by kernel_rfl

/-- tallyman/code.put -/
def ic_code_put : ICode :=
 .seq (.ops 0 false [⟨some 4, .mv (.c (.nils)), none, false, false, [4]⟩])
 (.seq (.ops 1 false [⟨some 8, .mv (.t 0), none, false, false, [0]⟩,
  ⟨some 9, .call (.c (.fn 123 [] [])) [.t 8], none, false, false, [8]⟩,
  ⟨some 5, .mv (.t 9), none, false, false, [9]⟩])
 (.seq (.seq (.ops 2 false [⟨some 10, .mv (.t 1), none, false, false, [1]⟩,
  ⟨some 11, .len (.t 10), none, false, false, []⟩,
  ⟨some 12, .mv (.c (.int .i64 0)), none, false, false, []⟩])
 (.block 0 (.loop [5, 10, 11, 12] (.seq (.ops 3 false [⟨some 13, .bin .lss (.t 12) (.t 11), none, false, false, []⟩])
   (.seq (.cond (.t 13)
    (.skip)
    (.exit 0))
   (.seq (.block 1 (.seq (.ops 4 false [⟨some 14, .ia 1 [.int .u64 0] (.t 10) (.t 12), none, false, false, []⟩,
     ⟨some 15, .ld none [.int .u64 0] (.t 14), none, false, false, [14]⟩,
     ⟨some 7, .mv (.t 15), none, false, false, [15]⟩])
    (.ops 5 false [⟨some 16, .mv (.t 5), none, false, false, [5]⟩,
     ⟨some 17, .mv (.t 7), none, false, false, [7]⟩,
     ⟨some 18, .call (.c (.fn 122 [] [])) [.t 16, .t 17], none, false, false, [16, 17]⟩,
     ⟨some 5, .mv (.t 18), none, false, false, [18]⟩])))
   (.ops 6 false [⟨some 19, .bin .add (.t 12) (.c (.int .i64 1)), none, false, false, [12]⟩,
    ⟨some 12, .mv (.t 19), none, false, false, [19]⟩])))))))
 (.seq (.ops 7 false [⟨some 20, .mv (.t 5), none, false, false, [5]⟩,
  ⟨some 4, .mv (.t 20), none, false, false, [20]⟩])
 (.ret))))
def rs_code_put : List IRes := [.t 4]
theorem ok_code_put : fnOk Tryz.prog 60 ic_code_put rs_code_put 21 = true := by kernel_rfl

/-- tallyman/pack.Unvar -/
def ic_pack_Unvar : ICode :=
 .seq (.ops 0 false [⟨some 2, .mv (.c (.int .u64 0)), none, false, false, [2]⟩,
  ⟨some 3, .mv (.c (.nils)), none, false, false, [3]⟩,
  ⟨some 4, .mv (.c (.int .i64 0)), none, false, false, [4]⟩])
 (.back [0, 5, 6] (.seq (.ops 1 false [⟨some 5, .mv (.c (.int .u64 0)), none, false, false, []⟩])
 (.seq (.ops 2 false [⟨some 6, .mv (.c (.int .i64 0)), none, false, false, []⟩])
 (.label 0))) 0
  (.seq (.block 0 (.seq (.ops 3 false [⟨some 8, .mv (.t 6), none, false, false, []⟩,
    ⟨some 9, .mv (.t 0), none, false, false, []⟩,
    ⟨some 10, .len (.t 9), none, false, false, [9]⟩,
    ⟨some 11, .bin .eql (.t 8) (.t 10), none, false, false, [8, 10]⟩,
    ⟨some 7, .mv (.t 11), none, false, false, [11]⟩])
   (.cond (.t 7)
    (.seq (.ops 4 false [⟨some 2, .mv (.c (.int .u64 0)), none, false, false, []⟩,
     ⟨some 3, .mv (.c (.nils)), none, false, false, []⟩,
     ⟨some 4, .mv (.c (.int .i64 4)), none, false, false, []⟩])
    (.ret))
    (.seq (.seq (.ops 5 false [⟨some 13, .mv (.t 6), none, false, false, []⟩,
     ⟨some 14, .bin .eql (.t 13) (.c (.int .i64 9)), none, false, false, [13]⟩,
     ⟨some 15, .mv (.t 14), none, false, false, [14]⟩,
     ⟨some 16, .mv (.t 0), (some (15, true)), true, false, []⟩,
     ⟨some 17, .mv (.t 6), (some (15, true)), true, false, []⟩,
     ⟨some 18, .ia 1 [.int .u8 0] (.o 16) (.o 17), (some (15, true)), true, false, [16, 17]⟩,
     ⟨some 19, .ld none [.int .u8 0] (.o 18), (some (15, true)), true, false, [18]⟩,
     ⟨some 20, .bin .gtr (.o 19) (.c (.int .u8 1)), (some (15, true)), true, false, [19]⟩,
     ⟨some 21, .pick (.t 15) (.t 20) (.c (.bool false)), none, false, false, [15, 20]⟩,
     ⟨some 12, .mv (.t 21), none, false, false, [21]⟩])
    (.cond (.t 12)
     (.skip)
     (.ops 6 false [⟨some 22, .mv (.t 6), none, false, false, []⟩,
      ⟨some 23, .bin .gtr (.t 22) (.c (.int .i64 0)), none, false, false, [22]⟩,
      ⟨some 24, .mv (.t 23), none, false, false, [23]⟩,
      ⟨some 25, .mv (.t 0), (some (24, true)), true, false, []⟩,
      ⟨some 26, .mv (.t 6), (some (24, true)), true, false, []⟩,
      ⟨some 27, .ia 1 [.int .u8 0] (.o 25) (.o 26), (some (24, true)), true, false, [25, 26]⟩,
      ⟨some 28, .ld none [.int .u8 0] (.o 27), (some (24, true)), true, false, [27]⟩,
      ⟨some 29, .bin .eql (.o 28) (.c (.int .u8 0)), (some (24, true)), true, false, [28]⟩,
      ⟨some 30, .pick (.t 24) (.t 29) (.c (.bool false)), none, false, false, [24, 29]⟩,
      ⟨some 12, .mv (.t 30), none, false, false, [30]⟩])))
    (.cond (.t 12)
     (.seq (.ops 7 false [⟨some 2, .mv (.c (.int .u64 0)), none, false, false, []⟩,
      ⟨some 3, .mv (.c (.nils)), none, false, false, []⟩,
      ⟨some 4, .mv (.c (.int .i64 3)), none, false, false, []⟩])
     (.ret))
     (.skip))))))
  (.seq (.ops 8 false [⟨some 31, .mv (.t 5), none, false, false, [5]⟩,
   ⟨some 32, .mv (.t 0), none, false, false, []⟩,
   ⟨some 33, .mv (.t 6), none, false, false, []⟩,
   ⟨some 34, .ia 1 [.int .u8 0] (.t 32) (.t 33), none, false, false, [32, 33]⟩,
   ⟨some 35, .ld none [.int .u8 0] (.t 34), none, false, false, [34]⟩,
   ⟨some 36, .binw .and (.t 35) (.c (.int .u8 127)), none, false, false, [35]⟩,
   ⟨some 37, .cvi .u64 (.t 36), none, false, false, [36]⟩,
   ⟨some 38, .mv (.t 6), none, false, false, []⟩,
   ⟨some 39, .bin .mul (.c (.int .i64 7)) (.t 38), none, false, false, [38]⟩,
   ⟨some 40, .binw .shl (.t 37) (.t 39), none, false, false, [37, 39]⟩,
   ⟨some 41, .binw .or (.t 31) (.t 40), none, false, false, [31, 40]⟩,
   ⟨some 5, .mv (.t 41), none, false, false, [41]⟩])
  (.seq (.seq (.ops 9 false [⟨some 42, .mv (.t 0), none, false, false, []⟩,
   ⟨some 43, .mv (.t 6), none, false, false, []⟩,
   ⟨some 44, .ia 1 [.int .u8 0] (.t 42) (.t 43), none, false, false, [42, 43]⟩,
   ⟨some 45, .ld none [.int .u8 0] (.t 44), none, false, false, [44]⟩,
   ⟨some 46, .bin .lss (.t 45) (.c (.int .u8 128)), none, false, false, [45]⟩])
  (.cond (.t 46)
   (.seq (.ops 10 true [⟨some 47, .mv (.t 5), none, false, false, [5]⟩,
    ⟨some 48, .mv (.t 0), none, false, false, [0]⟩,
    ⟨some 49, .mv (.t 6), none, false, false, [6]⟩,
    ⟨some 50, .bin .add (.t 49) (.c (.int .i64 1)), none, false, false, [49]⟩,
    ⟨some 51, .slc 1 (.t 48) (some (.t 50)) none, none, false, false, [48, 50]⟩,
    ⟨some 2, .mv (.t 47), none, false, false, [47]⟩,
    ⟨some 3, .mv (.t 51), none, false, false, [51]⟩,
    ⟨some 4, .mv (.c (.int .i64 0)), none, false, false, []⟩])
   (.ret))
   (.skip)))
  (.seq (.ops 11 false [⟨some 52, .mv (.t 6), none, false, false, [6]⟩,
   ⟨some 53, .bin .add (.t 52) (.c (.int .i64 1)), none, false, false, [52]⟩,
   ⟨some 6, .mv (.t 53), none, false, false, [53]⟩])
  (.goto 0))))))
def rs_pack_Unvar : List IRes := [.t 2, .t 3, .t 4]
theorem ok_pack_Unvar : fnOk Tryz.prog 126 ic_pack_Unvar rs_pack_Unvar 54 = true := by kernel_rfl

/-- tallyman/pack.Unzig -/
def ic_pack_Unzig : ICode :=
 .seq (.ops 0 false [⟨some 2, .mv (.c (.int .i64 0)), none, false, false, [2]⟩])
 (.seq (.ops 1 false [⟨some 3, .mv (.t 0), none, false, false, []⟩,
  ⟨some 4, .binw .shr (.t 3) (.c (.int .u64 1)), none, false, false, [3]⟩,
  ⟨some 5, .cvw .i64 (.t 4), none, false, false, [4]⟩,
  ⟨some 6, .mv (.t 0), none, false, false, [0]⟩,
  ⟨some 7, .binw .and (.t 6) (.c (.int .u64 1)), none, false, false, [6]⟩,
  ⟨some 8, .cvw .i64 (.t 7), none, false, false, [7]⟩,
  ⟨some 9, .neg (.t 8), none, false, false, [8]⟩,
  ⟨some 10, .binw .xor (.t 5) (.t 9), none, false, false, [5, 9]⟩,
  ⟨some 2, .mv (.t 10), none, false, false, [10]⟩])
 (.ret))
def rs_pack_Unzig : List IRes := [.t 2]
theorem ok_pack_Unzig : fnOk Tryz.prog 124 ic_pack_Unzig rs_pack_Unzig 11 = true := by kernel_rfl

/-- tallyman/pack.Var -/
def ic_pack_Var : ICode :=
 .seq (.ops 0 false [⟨some 4, .mv (.c (.nils)), none, false, false, [4]⟩])
 (.back [1, 5] (.seq (.ops 1 false [⟨some 6, .mv (.t 0), none, false, false, [0]⟩,
   ⟨some 7, .call (.c (.fn 142 [] [])) [.t 6], none, false, false, [6]⟩,
   ⟨some 5, .mv (.t 7), none, false, false, [7]⟩])
 (.label 0)) 0
  (.seq (.seq (.ops 2 false [⟨some 8, .mv (.t 1), none, false, false, []⟩,
   ⟨some 9, .bin .lss (.t 8) (.c (.int .u64 128)), none, false, false, [8]⟩])
  (.cond (.t 9)
   (.seq (.ops 3 false [⟨some 10, .mv (.t 5), none, false, false, [5]⟩,
    ⟨some 11, .mv (.t 1), none, false, false, [1]⟩,
    ⟨some 12, .cvw .u8 (.t 11), none, false, false, [11]⟩,
    ⟨some 13, .rowView 1 [.t 12], none, false, false, [12]⟩,
    ⟨some 14, .call (.c (.fn 143 [] [])) [.t 10, .t 13], none, false, false, [10, 13]⟩,
    ⟨some 4, .mv (.t 14), none, false, false, [14]⟩])
   (.ret))
   (.skip)))
  (.seq (.ops 4 false [⟨some 15, .mv (.t 5), none, false, false, [5]⟩,
   ⟨some 16, .mv (.t 1), none, false, false, []⟩,
   ⟨some 17, .cvw .u8 (.t 16), none, false, false, [16]⟩,
   ⟨some 18, .binw .or (.t 17) (.c (.int .u8 128)), none, false, false, [17]⟩,
   ⟨some 19, .rowView 1 [.t 18], none, false, false, [18]⟩,
   ⟨some 20, .app 1 (.t 15) (.t 19), none, false, false, [15, 19]⟩,
   ⟨some 5, .mv (.t 20), none, false, false, [20]⟩])
  (.seq (.ops 5 false [⟨some 21, .mv (.t 1), none, false, false, [1]⟩,
   ⟨some 22, .binw .shr (.t 21) (.c (.int .u64 7)), none, false, false, [21]⟩,
   ⟨some 1, .mv (.t 22), none, false, false, [22]⟩])
  (.goto 0)))))
def rs_pack_Var : List IRes := [.t 4]
theorem ok_pack_Var : fnOk Tryz.prog 122 ic_pack_Var rs_pack_Var 23 = true := by kernel_rfl

/-- tallyman/pack.Zig -/
def ic_pack_Zig : ICode :=
 .seq (.ops 0 false [⟨some 2, .mv (.c (.int .u64 0)), none, false, false, [2]⟩])
 (.seq (.ops 1 false [⟨some 3, .mv (.t 0), none, false, false, []⟩,
  ⟨some 4, .cvw .u64 (.t 3), none, false, false, [3]⟩,
  ⟨some 5, .binw .shl (.t 4) (.c (.int .u64 1)), none, false, false, [4]⟩,
  ⟨some 6, .mv (.t 0), none, false, false, [0]⟩,
  ⟨some 7, .binw .shr (.t 6) (.c (.int .u64 63)), none, false, false, [6]⟩,
  ⟨some 8, .cvw .u64 (.t 7), none, false, false, [7]⟩,
  ⟨some 9, .binw .xor (.t 5) (.t 8), none, false, false, [5, 8]⟩,
  ⟨some 2, .mv (.t 9), none, false, false, [9]⟩])
 (.ret))
def rs_pack_Zig : List IRes := [.t 2]
theorem ok_pack_Zig : fnOk Tryz.prog 61 ic_pack_Zig rs_pack_Zig 10 = true := by kernel_rfl

/-- tallyman/pack.behind -/
def ic_pack_behind : ICode :=
 .seq (.ops 0 false [⟨some 4, .mv (.c (.nils)), none, false, false, [4]⟩])
 (.seq (.ops 1 false [⟨some 5, .mv (.t 0), none, false, false, [0]⟩,
  ⟨some 6, .call (.c (.fn 142 [] [])) [.t 5], none, false, false, [5]⟩,
  ⟨some 7, .mv (.t 1), none, false, false, [1]⟩,
  ⟨some 8, .app 1 (.t 6) (.t 7), none, false, false, [6, 7]⟩,
  ⟨some 4, .mv (.t 8), none, false, false, [8]⟩])
 (.ret))
def rs_pack_behind : List IRes := [.t 4]
theorem ok_pack_behind : fnOk Tryz.prog 143 ic_pack_behind rs_pack_behind 9 = true := by kernel_rfl

/-- tallyman/tallymanref08.Same -/
def ic_r08_Same : ICode :=
 .seq (.ops 0 false [⟨some 4, .mv (.c (.bool false)), none, false, false, [4]⟩])
 (.seq (.ops 1 false [⟨some 5, .mv (.t 0), none, false, false, [0]⟩,
  ⟨some 6, .strb (.t 5), none, false, false, [5]⟩,
  ⟨some 7, .mv (.t 1), none, false, false, [1]⟩,
  ⟨some 8, .strb (.t 7), none, false, false, [7]⟩,
  ⟨some 9, .eqs false (.t 6) (.t 8), none, false, false, [6, 8]⟩,
  ⟨some 4, .mv (.t 9), none, false, false, [9]⟩])
 (.ret))
def rs_r08_Same : List IRes := [.t 4]
theorem ok_r08_Same : fnOk Tryz.prog 11 ic_r08_Same rs_r08_Same 10 = true := by kernel_rfl

/-- tallyman/tallymanref08.Unvar -/
def ic_r08_Unvar : ICode :=
 .seq (.ops 0 false [⟨some 2, .mv (.c (.int .u64 0)), none, false, false, [2]⟩,
  ⟨some 3, .mv (.c (.nils)), none, false, false, [3]⟩,
  ⟨some 4, .mv (.c (.int .i64 0)), none, false, false, [4]⟩])
 (.seq (.ops 1 false [⟨some 5, .mv (.c (.int .u64 0)), none, false, false, []⟩,
  ⟨some 6, .mv (.c (.int .u64 0)), none, false, false, [6]⟩])
 (.seq (.ops 2 false [⟨some 6, .mv (.c (.int .u64 1)), none, false, false, []⟩])
 (.seq (.seq (.ops 3 false [⟨some 7, .mv (.c (.int .i64 0)), none, false, false, []⟩])
 (.block 0 (.loop [0, 5, 6, 7] (.seq (.seq (.ops 4 false [⟨some 8, .mv (.t 7), none, false, false, []⟩,
    ⟨some 9, .mv (.t 0), none, false, false, []⟩,
    ⟨some 10, .len (.t 9), none, false, false, [9]⟩,
    ⟨some 11, .bin .lss (.t 8) (.t 10), none, false, false, [8, 10]⟩])
   (.cond (.t 11)
    (.skip)
    (.exit 0)))
   (.seq (.block 1 (.seq (.seq (.ops 6 false [⟨some 14, .mv (.t 7), none, false, false, []⟩,
     ⟨some 15, .bin .eql (.t 14) (.c (.int .i64 9)), none, false, false, [14]⟩,
     ⟨some 16, .mv (.t 15), none, false, false, [15]⟩,
     ⟨some 17, .mv (.t 0), (some (16, true)), true, false, []⟩,
     ⟨some 18, .mv (.t 7), (some (16, true)), true, false, []⟩,
     ⟨some 19, .ia 1 [.int .u8 0] (.o 17) (.o 18), (some (16, true)), true, false, [17, 18]⟩,
     ⟨some 20, .ld none [.int .u8 0] (.o 19), (some (16, true)), true, false, [19]⟩,
     ⟨some 21, .bin .gtr (.o 20) (.c (.int .u8 1)), (some (16, true)), true, false, [20]⟩,
     ⟨some 22, .pick (.t 16) (.t 21) (.c (.bool false)), none, false, false, [16, 21]⟩,
     ⟨some 23, .mv (.t 22), none, false, false, [22]⟩,
     ⟨some 24, .mv (.t 7), (some (23, false)), true, false, []⟩,
     ⟨some 25, .bin .gtr (.o 24) (.c (.int .i64 0)), (some (23, false)), true, false, [24]⟩,
     ⟨some 26, .mv (.o 25), (some (23, false)), true, false, [25]⟩,
     ⟨some 27, .mv (.t 0), (some (26, true)), true, false, []⟩,
     ⟨some 28, .mv (.t 7), (some (26, true)), true, false, []⟩,
     ⟨some 29, .ia 1 [.int .u8 0] (.o 27) (.o 28), (some (26, true)), true, false, [27, 28]⟩,
     ⟨some 30, .ld none [.int .u8 0] (.o 29), (some (26, true)), true, false, [29]⟩,
     ⟨some 31, .bin .eql (.o 30) (.c (.int .u8 0)), (some (26, true)), true, false, [30]⟩,
     ⟨some 32, .pick (.o 26) (.t 31) (.c (.bool false)), (some (23, false)), true, false, [26, 31]⟩,
     ⟨some 33, .pick (.t 23) (.c (.bool true)) (.t 32), none, false, false, [23, 32]⟩])
    (.cond (.t 33)
     (.seq (.ops 7 false [⟨some 2, .mv (.c (.int .u64 0)), none, false, false, []⟩,
      ⟨some 3, .mv (.c (.nils)), none, false, false, []⟩,
      ⟨some 4, .mv (.c (.int .i64 3)), none, false, false, []⟩])
     (.ret))
     (.skip)))
    (.seq (.ops 8 false [⟨some 34, .mv (.t 5), none, false, false, [5]⟩,
     ⟨some 35, .mv (.t 6), none, false, false, []⟩,
     ⟨some 36, .mv (.t 0), none, false, false, []⟩,
     ⟨some 37, .mv (.t 7), none, false, false, []⟩,
     ⟨some 38, .ia 1 [.int .u8 0] (.t 36) (.t 37), none, false, false, [36, 37]⟩,
     ⟨some 39, .ld none [.int .u8 0] (.t 38), none, false, false, [38]⟩,
     ⟨some 40, .bin .rem (.t 39) (.c (.int .u8 128)), none, false, false, [39]⟩,
     ⟨some 41, .cvi .u64 (.t 40), none, false, false, [40]⟩,
     ⟨some 42, .binw .mul (.t 35) (.t 41), none, false, false, [35, 41]⟩,
     ⟨some 43, .binw .add (.t 34) (.t 42), none, false, false, [34, 42]⟩,
     ⟨some 5, .mv (.t 43), none, false, false, [43]⟩])
    (.seq (.seq (.ops 9 false [⟨some 44, .mv (.t 0), none, false, false, []⟩,
     ⟨some 45, .mv (.t 7), none, false, false, []⟩,
     ⟨some 46, .ia 1 [.int .u8 0] (.t 44) (.t 45), none, false, false, [44, 45]⟩,
     ⟨some 47, .ld none [.int .u8 0] (.t 46), none, false, false, [46]⟩,
     ⟨some 48, .bin .lss (.t 47) (.c (.int .u8 128)), none, false, false, [47]⟩])
    (.cond (.t 48)
     (.seq (.ops 10 false [⟨some 49, .mv (.t 5), none, false, false, [5]⟩,
      ⟨some 50, .rowOwn 1 [], none, false, false, []⟩,
      ⟨some 51, .mv (.t 0), none, false, false, [0]⟩,
      ⟨some 52, .mv (.t 7), none, false, false, [7]⟩,
      ⟨some 53, .bin .add (.t 52) (.c (.int .i64 1)), none, false, false, [52]⟩,
      ⟨some 54, .slc 1 (.t 51) (some (.t 53)) none, none, false, false, [51, 53]⟩,
      ⟨some 55, .app 1 (.t 50) (.t 54), none, false, false, [50, 54]⟩,
      ⟨some 2, .mv (.t 49), none, false, false, [49]⟩,
      ⟨some 3, .mv (.t 55), none, false, false, [55]⟩,
      ⟨some 4, .mv (.c (.int .i64 0)), none, false, false, []⟩])
     (.ret))
     (.skip)))
    (.ops 11 false [⟨some 56, .mv (.t 6), none, false, false, [6]⟩,
     ⟨some 57, .binw .mul (.t 56) (.c (.int .u64 128)), none, false, false, [56]⟩,
     ⟨some 6, .mv (.t 57), none, false, false, [57]⟩])))))
   (.ops 5 false [⟨some 12, .mv (.t 7), none, false, false, [7]⟩,
    ⟨some 13, .bin .add (.t 12) (.c (.int .i64 1)), none, false, false, [12]⟩,
    ⟨some 7, .mv (.t 13), none, false, false, [13]⟩]))))))
 (.seq (.ops 12 false [⟨some 2, .mv (.c (.int .u64 0)), none, false, false, []⟩,
  ⟨some 3, .mv (.c (.nils)), none, false, false, []⟩,
  ⟨some 4, .mv (.c (.int .i64 4)), none, false, false, []⟩])
 (.ret)))))
def rs_r08_Unvar : List IRes := [.t 2, .t 3, .t 4]
theorem ok_r08_Unvar : fnOk Tryz.prog 127 ic_r08_Unvar rs_r08_Unvar 58 = true := by kernel_rfl

/-- tallyman/tallymanref08.Unzig -/
def ic_r08_Unzig : ICode :=
 .seq (.ops 0 false [⟨some 2, .mv (.c (.int .i64 0)), none, false, false, [2]⟩])
 (.seq (.seq (.ops 1 false [⟨some 3, .mv (.t 0), none, false, false, []⟩,
  ⟨some 4, .bin .rem (.t 3) (.c (.int .u64 2)), none, false, false, [3]⟩,
  ⟨some 5, .bin .eql (.t 4) (.c (.int .u64 0)), none, false, false, [4]⟩])
 (.cond (.t 5)
  (.seq (.ops 2 false [⟨some 6, .mv (.t 0), none, false, false, [0]⟩,
   ⟨some 7, .bin .quo (.t 6) (.c (.int .u64 2)), none, false, false, [6]⟩,
   ⟨some 8, .cvw .i64 (.t 7), none, false, false, [7]⟩,
   ⟨some 2, .mv (.t 8), none, false, false, [8]⟩])
  (.ret))
  (.skip)))
 (.seq (.ops 3 false [⟨some 9, .mv (.t 0), none, false, false, [0]⟩,
  ⟨some 10, .bin .quo (.t 9) (.c (.int .u64 2)), none, false, false, [9]⟩,
  ⟨some 11, .cvw .i64 (.t 10), none, false, false, [10]⟩,
  ⟨some 12, .neg (.t 11), none, false, false, [11]⟩,
  ⟨some 13, .bin .sub (.t 12) (.c (.int .i64 1)), none, false, false, [12]⟩,
  ⟨some 2, .mv (.t 13), none, false, false, [13]⟩])
 (.ret)))
def rs_r08_Unzig : List IRes := [.t 2]
theorem ok_r08_Unzig : fnOk Tryz.prog 128 ic_r08_Unzig rs_r08_Unzig 14 = true := by kernel_rfl

/-- tallyman/tallymanref08.Var -/
def ic_r08_Var : ICode :=
 .seq (.ops 0 false [⟨some 4, .mv (.c (.nils)), none, false, false, [4]⟩])
 (.seq (.ops 1 false [⟨some 6, .rowOwn 1 [], none, false, false, []⟩,
  ⟨some 7, .mv (.t 0), none, false, false, [0]⟩,
  ⟨some 8, .app 1 (.t 6) (.t 7), none, false, false, [6, 7]⟩,
  ⟨some 5, .mv (.t 8), none, false, false, [8]⟩])
 (.seq (.block 0 (.loop [1, 5] (.seq (.seq (.ops 2 false [⟨some 9, .mv (.t 1), none, false, false, []⟩,
    ⟨some 10, .bin .geq (.t 9) (.c (.int .u64 128)), none, false, false, [9]⟩])
   (.cond (.t 10)
    (.skip)
    (.exit 0)))
   (.block 1 (.seq (.ops 3 false [⟨some 11, .mv (.t 5), none, false, false, [5]⟩,
     ⟨some 12, .mv (.t 1), none, false, false, []⟩,
     ⟨some 13, .bin .rem (.t 12) (.c (.int .u64 128)), none, false, false, [12]⟩,
     ⟨some 14, .binw .add (.t 13) (.c (.int .u64 128)), none, false, false, [13]⟩,
     ⟨some 15, .cvw .u8 (.t 14), none, false, false, [14]⟩,
     ⟨some 16, .rowView 1 [.t 15], none, false, false, [15]⟩,
     ⟨some 17, .app 1 (.t 11) (.t 16), none, false, false, [11, 16]⟩,
     ⟨some 5, .mv (.t 17), none, false, false, [17]⟩])
    (.ops 4 false [⟨some 18, .mv (.t 1), none, false, false, [1]⟩,
     ⟨some 19, .bin .quo (.t 18) (.c (.int .u64 128)), none, false, false, [18]⟩,
     ⟨some 1, .mv (.t 19), none, false, false, [19]⟩]))))))
 (.seq (.ops 5 false [⟨some 20, .mv (.t 5), none, false, false, [5]⟩,
  ⟨some 21, .mv (.t 1), none, false, false, [1]⟩,
  ⟨some 22, .cvw .u8 (.t 21), none, false, false, [21]⟩,
  ⟨some 23, .rowView 1 [.t 22], none, false, false, [22]⟩,
  ⟨some 24, .app 1 (.t 20) (.t 23), none, false, false, [20, 23]⟩,
  ⟨some 4, .mv (.t 24), none, false, false, [24]⟩])
 (.ret))))
def rs_r08_Var : List IRes := [.t 4]
theorem ok_r08_Var : fnOk Tryz.prog 64 ic_r08_Var rs_r08_Var 25 = true := by kernel_rfl

/-- tallyman/tallymanref08.Zig -/
def ic_r08_Zig : ICode :=
 .seq (.ops 0 false [⟨some 2, .mv (.c (.int .u64 0)), none, false, false, [2]⟩])
 (.seq (.seq (.ops 1 false [⟨some 3, .mv (.t 0), none, false, false, []⟩,
  ⟨some 4, .bin .geq (.t 3) (.c (.int .i64 0)), none, false, false, [3]⟩])
 (.cond (.t 4)
  (.seq (.ops 2 false [⟨some 5, .mv (.t 0), none, false, false, [0]⟩,
   ⟨some 6, .cvw .u64 (.t 5), none, false, false, [5]⟩,
   ⟨some 7, .binw .mul (.c (.int .u64 2)) (.t 6), none, false, false, [6]⟩,
   ⟨some 2, .mv (.t 7), none, false, false, [7]⟩])
  (.ret))
  (.skip)))
 (.seq (.ops 3 false [⟨some 8, .mv (.t 0), none, false, false, [0]⟩,
  ⟨some 9, .bin .add (.t 8) (.c (.int .i64 1)), none, false, false, [8]⟩,
  ⟨some 10, .neg (.t 9), none, false, false, [9]⟩,
  ⟨some 11, .cvw .u64 (.t 10), none, false, false, [10]⟩,
  ⟨some 12, .binw .mul (.c (.int .u64 2)) (.t 11), none, false, false, [11]⟩,
  ⟨some 13, .binw .add (.t 12) (.c (.int .u64 1)), none, false, false, [12]⟩,
  ⟨some 2, .mv (.t 13), none, false, false, [13]⟩])
 (.ret)))
def rs_r08_Zig : List IRes := [.t 2]
theorem ok_r08_Zig : fnOk Tryz.prog 65 ic_r08_Zig rs_r08_Zig 14 = true := by kernel_rfl

/-- tallyman/tallymanref29.Int -/
def ic_r29_Int : ICode :=
 .seq (.ops 0 false [⟨some 1, .box (.t 0), none, false, false, [0]⟩,
  ⟨some 2, .alloc [.nils, .int .i64 0], none, false, false, []⟩,
  ⟨some 3, .mv (.c (.int .i64 0)), none, false, false, [3]⟩])
 (.seq (.ops 1 false [⟨some 7, .ld (some 2) [] (.t 1), none, false, false, [1]⟩,
  ⟨some 8, .call (.c (.fn 72 [] [])) [.t 7], none, false, false, [7]⟩,
  ⟨some 6, .mv (.t 8), none, false, false, [8]⟩,
  ⟨some 9, .ext 0 (.t 6), none, false, false, []⟩,
  ⟨some 10, .ext 1 (.t 6), none, false, false, [6]⟩,
  ⟨some 4, .alloc [.nils, .int .i64 0], none, false, false, []⟩,
  ⟨none, .st 2 (.t 4) (.t 9), none, false, false, [9]⟩,
  ⟨some 5, .mv (.t 10), none, false, false, [10]⟩])
 (.seq (.seq (.ops 2 false [⟨some 11, .fa 1 (.t 4), none, false, false, []⟩,
  ⟨some 12, .ld none [] (.t 11), none, false, false, [11]⟩,
  ⟨some 13, .bin .eql (.t 12) (.c (.int .i64 0)), none, false, false, [12]⟩,
  ⟨some 14, .mv (.t 13), none, false, false, [13]⟩,
  ⟨some 15, .mv (.t 5), (some (14, true)), true, false, []⟩,
  ⟨some 16, .bin .gtr (.o 15) (.c (.int .u64 4294967295)), (some (14, true)), true, false, [15]⟩,
  ⟨some 17, .pick (.t 14) (.t 16) (.c (.bool false)), none, false, false, [14, 16]⟩])
 (.cond (.t 17)
  (.seq (.ops 3 false [⟨some 18, .build [.nils, .int .i64 0] [(1, 1, .c (.int .i64 2))], none, false, false, []⟩,
   ⟨none, .st 2 (.t 2) (.t 18), none, false, false, [18]⟩,
   ⟨some 3, .mv (.c (.int .i64 0)), none, false, false, []⟩])
  (.ret))
  (.skip)))
 (.seq (.ops 4 false [⟨some 19, .ld (some 2) [] (.t 4), none, false, false, [4]⟩,
  ⟨some 20, .mv (.t 5), none, false, false, [5]⟩,
  ⟨some 21, .cvw .i64 (.t 20), none, false, false, [20]⟩,
  ⟨none, .st 2 (.t 2) (.t 19), none, false, false, [19]⟩,
  ⟨some 3, .mv (.t 21), none, false, false, [21]⟩])
 (.ret))))
def rs_r29_Int : List IRes := [.cell 2 (some 2), .t 3]
theorem ok_r29_Int : fnOk Tryz.prog 39 ic_r29_Int rs_r29_Int 22 = true := by kernel_rfl

/-- tallyman/tallymanref29.Point -/
def ic_r29_Point : ICode :=
 .seq (.ops 0 false [⟨some 1, .box (.t 0), none, false, false, [0]⟩,
  ⟨some 2, .alloc [.nils, .int .i64 0], none, false, false, []⟩,
  ⟨some 3, .alloc [.int .i64 0, .int .i64 0], none, false, false, []⟩])
 (.seq (.ops 1 false [⟨some 9, .ld (some 2) [] (.t 1), none, false, false, [1]⟩,
  ⟨some 10, .call (.c (.fn 39 [] [])) [.t 9], none, false, false, [9]⟩,
  ⟨some 8, .mv (.t 10), none, false, false, [10]⟩,
  ⟨some 11, .ext 0 (.t 8), none, false, false, []⟩,
  ⟨some 12, .ext 1 (.t 8), none, false, false, [8]⟩,
  ⟨some 4, .alloc [.nils, .int .i64 0], none, false, false, []⟩,
  ⟨none, .st 2 (.t 4) (.t 11), none, false, false, [11]⟩,
  ⟨some 5, .mv (.t 12), none, false, false, [12]⟩])
 (.seq (.ops 2 false [⟨some 14, .ld (some 2) [] (.t 4), none, false, false, [4]⟩,
  ⟨some 15, .call (.c (.fn 39 [] [])) [.t 14], none, false, false, [14]⟩,
  ⟨some 13, .mv (.t 15), none, false, false, [15]⟩,
  ⟨some 16, .ext 0 (.t 13), none, false, false, []⟩,
  ⟨some 17, .ext 1 (.t 13), none, false, false, [13]⟩,
  ⟨some 6, .alloc [.nils, .int .i64 0], none, false, false, []⟩,
  ⟨none, .st 2 (.t 6) (.t 16), none, false, false, [16]⟩,
  ⟨some 7, .mv (.t 17), none, false, false, [17]⟩])
 (.seq (.ops 3 true [⟨some 18, .ld (some 2) [] (.t 6), none, false, false, [6]⟩,
  ⟨some 19, .mv (.t 5), none, false, false, [5]⟩,
  ⟨some 20, .cvw .u64 (.t 19), none, false, false, [19]⟩,
  ⟨some 21, .call (.c (.fn 128 [] [])) [.t 20], none, false, false, [20]⟩,
  ⟨some 22, .mv (.t 7), none, false, false, [7]⟩,
  ⟨some 23, .cvw .u64 (.t 22), none, false, false, [22]⟩,
  ⟨some 24, .call (.c (.fn 128 [] [])) [.t 23], none, false, false, [23]⟩,
  ⟨some 25, .build [.int .i64 0, .int .i64 0] [(0, 1, .t 21), (1, 1, .t 24)], none, false, false, [21, 24]⟩,
  ⟨none, .st 2 (.t 2) (.t 18), none, false, false, [18]⟩,
  ⟨none, .st 2 (.t 3) (.t 25), none, false, false, [25]⟩])
 (.ret))))
def rs_r29_Point : List IRes := [.cell 2 (some 2), .cell 3 (some 2)]
theorem ok_r29_Point : fnOk Tryz.prog 74 ic_r29_Point rs_r29_Point 26 = true := by kernel_rfl

/-- tallyman/tallymanref29.PutSpec -/
def ic_r29_PutSpec : ICode :=
 .seq (.ops 0 false [⟨some 3, .box (.t 1), none, false, false, [1]⟩,
  ⟨some 4, .mv (.c (.nils)), none, false, false, [4]⟩])
 (.seq (.ops 1 true [⟨some 7, .fa 0 (.t 3), none, false, false, []⟩,
  ⟨some 8, .ld none [] (.t 7), none, false, false, [7]⟩,
  ⟨some 9, .cvw .u64 (.t 8), none, false, false, [8]⟩,
  ⟨some 10, .fa 1 (.t 3), none, false, false, []⟩,
  ⟨some 11, .ld none [] (.t 10), none, false, false, [10]⟩,
  ⟨some 12, .cvw .u64 (.t 11), none, false, false, [11]⟩,
  ⟨some 13, .fa 2 (.t 3), none, false, false, []⟩,
  ⟨some 14, .ld none [] (.t 13), none, false, false, [13]⟩,
  ⟨some 15, .fa 3 (.t 3), none, false, false, []⟩,
  ⟨some 16, .ld none [] (.t 15), none, false, false, [15]⟩,
  ⟨some 17, .fa 4 (.t 3), none, false, false, []⟩,
  ⟨some 18, .fa 0 (.t 17), none, false, false, [17]⟩,
  ⟨some 19, .ld none [] (.t 18), none, false, false, [18]⟩,
  ⟨some 20, .call (.c (.fn 65 [] [])) [.t 19], none, false, false, [19]⟩,
  ⟨some 21, .fa 4 (.t 3), none, false, false, []⟩,
  ⟨some 22, .fa 1 (.t 21), none, false, false, [21]⟩,
  ⟨some 23, .ld none [] (.t 22), none, false, false, [22]⟩,
  ⟨some 24, .call (.c (.fn 65 [] [])) [.t 23], none, false, false, [23]⟩,
  ⟨some 25, .fa 6 (.t 3), none, false, false, []⟩,
  ⟨some 26, .fa 0 (.t 25), none, false, false, [25]⟩,
  ⟨some 27, .ld none [] (.t 26), none, false, false, [26]⟩,
  ⟨some 28, .call (.c (.fn 65 [] [])) [.t 27], none, false, false, [27]⟩,
  ⟨some 29, .fa 6 (.t 3), none, false, false, []⟩,
  ⟨some 30, .fa 1 (.t 29), none, false, false, [29]⟩,
  ⟨some 31, .ld none [] (.t 30), none, false, false, [30]⟩,
  ⟨some 32, .call (.c (.fn 65 [] [])) [.t 31], none, false, false, [31]⟩,
  ⟨some 33, .fa 8 (.t 3), none, false, false, []⟩,
  ⟨some 34, .ld none [] (.t 33), none, false, false, [33]⟩,
  ⟨some 35, .len (.t 34), none, false, false, [34]⟩,
  ⟨some 36, .cvw .u64 (.t 35), none, false, false, [35]⟩,
  ⟨some 37, .rowOwn 1 [.t 9, .t 12, .t 14, .t 16, .t 20, .t 24, .t 28, .t 32, .t 36], none, false, false, [9, 12, 14, 16, 20, 24, 28, 32, 36]⟩,
  ⟨some 5, .mv (.t 37), none, false, false, [37]⟩])
 (.seq (.seq (.ops 2 false [⟨some 6, .mv (.c (.int .i64 0)), none, false, false, []⟩])
 (.block 0 (.loop [0, 3, 5, 6] (.seq (.seq (.ops 3 false [⟨some 38, .mv (.t 6), none, false, false, []⟩,
    ⟨some 39, .fa 8 (.t 3), none, false, false, []⟩,
    ⟨some 40, .ld none [] (.t 39), none, false, false, [39]⟩,
    ⟨some 41, .len (.t 40), none, false, false, [40]⟩,
    ⟨some 42, .bin .lss (.t 38) (.t 41), none, false, false, [38, 41]⟩])
   (.cond (.t 42)
    (.skip)
    (.exit 0)))
   (.seq (.block 1 (.ops 5 false [⟨some 45, .mv (.t 5), none, false, false, [5]⟩,
     ⟨some 46, .fa 8 (.t 3), none, false, false, []⟩,
     ⟨some 47, .ld none [] (.t 46), none, false, false, [46]⟩,
     ⟨some 48, .mv (.t 6), none, false, false, []⟩,
     ⟨some 49, .ia 1 [.int .i64 0] (.t 47) (.t 48), none, false, false, [47, 48]⟩,
     ⟨some 50, .ld none [.int .i64 0] (.t 49), none, false, false, [49]⟩,
     ⟨some 51, .cvw .u64 (.t 50), none, false, false, [50]⟩,
     ⟨some 52, .rowView 1 [.t 51], none, false, false, [51]⟩,
     ⟨some 53, .app 1 (.t 45) (.t 52), none, false, false, [45, 52]⟩,
     ⟨some 5, .mv (.t 53), none, false, false, [53]⟩]))
   (.ops 4 false [⟨some 43, .mv (.t 6), none, false, false, [6]⟩,
    ⟨some 44, .bin .add (.t 43) (.c (.int .i64 1)), none, false, false, [43]⟩,
    ⟨some 6, .mv (.t 44), none, false, false, [44]⟩]))))))
 (.seq (.ops 6 false [⟨some 54, .mv (.t 0), none, false, false, [0]⟩,
  ⟨some 55, .mv (.t 5), none, false, false, [5]⟩,
  ⟨some 56, .call (.c (.fn 66 [] [])) [.t 54, .t 55], none, false, false, [54, 55]⟩,
  ⟨some 4, .mv (.t 56), none, false, false, [56]⟩])
 (.ret))))
def rs_r29_PutSpec : List IRes := [.t 4]
theorem ok_r29_PutSpec : fnOk Tryz.prog 24 ic_r29_PutSpec rs_r29_PutSpec 57 = true := by kernel_rfl

/-- tallyman/tallymanref29.Spec -/
def ic_r29_Spec : ICode :=
 .seq (.ops 0 false [⟨some 1, .box (.t 0), none, false, false, [0]⟩,
  ⟨some 2, .alloc [.nils, .int .i64 0], none, false, false, []⟩,
  ⟨some 3, .alloc [.int .i64 0, .int .i64 0, .int .u64 0, .int .u64 0, .int .i64 0, .int .i64 0, .int .i64 0, .int .i64 0, .nils], none, false, false, []⟩])
 (.seq (.ops 1 false [⟨some 4, .alloc [.int .i64 0, .int .i64 0, .int .u64 0, .int .u64 0, .int .i64 0, .int .i64 0, .int .i64 0, .int .i64 0, .nils], none, false, false, []⟩])
 (.seq (.ops 2 false [⟨some 5, .mv (.c (.int .i64 0)), none, false, false, [5]⟩])
 (.seq (.ops 3 false [⟨some 9, .ld (some 2) [] (.t 1), none, false, false, []⟩,
  ⟨some 10, .call (.c (.fn 39 [] [])) [.t 9], none, false, false, [9]⟩,
  ⟨some 8, .mv (.t 10), none, false, false, [10]⟩,
  ⟨some 11, .ext 0 (.t 8), none, false, false, []⟩,
  ⟨some 12, .ext 1 (.t 8), none, false, false, [8]⟩,
  ⟨none, .st 2 (.t 1) (.t 11), none, false, false, [11]⟩,
  ⟨some 13, .fa 0 (.t 4), none, false, false, []⟩,
  ⟨none, .st 1 (.t 13) (.t 12), none, false, false, [12, 13]⟩])
 (.seq (.ops 4 false [⟨some 15, .ld (some 2) [] (.t 1), none, false, false, []⟩,
  ⟨some 16, .call (.c (.fn 39 [] [])) [.t 15], none, false, false, [15]⟩,
  ⟨some 14, .mv (.t 16), none, false, false, [16]⟩,
  ⟨some 17, .ext 0 (.t 14), none, false, false, []⟩,
  ⟨some 18, .ext 1 (.t 14), none, false, false, [14]⟩,
  ⟨none, .st 2 (.t 1) (.t 17), none, false, false, [17]⟩,
  ⟨some 19, .fa 1 (.t 4), none, false, false, []⟩,
  ⟨none, .st 1 (.t 19) (.t 18), none, false, false, [18, 19]⟩])
 (.seq (.ops 5 false [⟨some 21, .ld (some 2) [] (.t 1), none, false, false, []⟩,
  ⟨some 22, .call (.c (.fn 72 [] [])) [.t 21], none, false, false, [21]⟩,
  ⟨some 20, .mv (.t 22), none, false, false, [22]⟩,
  ⟨some 23, .ext 0 (.t 20), none, false, false, []⟩,
  ⟨some 24, .ext 1 (.t 20), none, false, false, [20]⟩,
  ⟨none, .st 2 (.t 1) (.t 23), none, false, false, [23]⟩,
  ⟨some 25, .fa 2 (.t 4), none, false, false, []⟩,
  ⟨none, .st 1 (.t 25) (.t 24), none, false, false, [24, 25]⟩])
 (.seq (.ops 6 false [⟨some 27, .ld (some 2) [] (.t 1), none, false, false, []⟩,
  ⟨some 28, .call (.c (.fn 72 [] [])) [.t 27], none, false, false, [27]⟩,
  ⟨some 26, .mv (.t 28), none, false, false, [28]⟩,
  ⟨some 29, .ext 0 (.t 26), none, false, false, []⟩,
  ⟨some 30, .ext 1 (.t 26), none, false, false, [26]⟩,
  ⟨none, .st 2 (.t 1) (.t 29), none, false, false, [29]⟩,
  ⟨some 31, .fa 3 (.t 4), none, false, false, []⟩,
  ⟨none, .st 1 (.t 31) (.t 30), none, false, false, [30, 31]⟩])
 (.seq (.ops 7 false [⟨some 33, .ld (some 2) [] (.t 1), none, false, false, []⟩,
  ⟨some 34, .call (.c (.fn 74 [] [])) [.t 33], none, false, false, [33]⟩,
  ⟨some 32, .mv (.t 34), none, false, false, [34]⟩,
  ⟨some 35, .ext 0 (.t 32), none, false, false, []⟩,
  ⟨some 36, .ext 1 (.t 32), none, false, false, [32]⟩,
  ⟨none, .st 2 (.t 1) (.t 35), none, false, false, [35]⟩,
  ⟨some 37, .fa 4 (.t 4), none, false, false, []⟩,
  ⟨none, .st 2 (.t 37) (.t 36), none, false, false, [36, 37]⟩])
 (.seq (.ops 8 false [⟨some 39, .ld (some 2) [] (.t 1), none, false, false, []⟩,
  ⟨some 40, .call (.c (.fn 74 [] [])) [.t 39], none, false, false, [39]⟩,
  ⟨some 38, .mv (.t 40), none, false, false, [40]⟩,
  ⟨some 41, .ext 0 (.t 38), none, false, false, []⟩,
  ⟨some 42, .ext 1 (.t 38), none, false, false, [38]⟩,
  ⟨none, .st 2 (.t 1) (.t 41), none, false, false, [41]⟩,
  ⟨some 43, .fa 6 (.t 4), none, false, false, []⟩,
  ⟨none, .st 2 (.t 43) (.t 42), none, false, false, [42, 43]⟩])
 (.seq (.ops 9 false [⟨some 45, .ld (some 2) [] (.t 1), none, false, false, []⟩,
  ⟨some 46, .call (.c (.fn 39 [] [])) [.t 45], none, false, false, [45]⟩,
  ⟨some 44, .mv (.t 46), none, false, false, [46]⟩,
  ⟨some 47, .ext 0 (.t 44), none, false, false, []⟩,
  ⟨some 48, .ext 1 (.t 44), none, false, false, [44]⟩,
  ⟨none, .st 2 (.t 1) (.t 47), none, false, false, [47]⟩,
  ⟨some 5, .mv (.t 48), none, false, false, [48]⟩])
 (.seq (.seq (.ops 10 false [⟨some 49, .fa 1 (.t 1), none, false, false, []⟩,
  ⟨some 50, .ld none [] (.t 49), none, false, false, [49]⟩,
  ⟨some 51, .bin .eql (.t 50) (.c (.int .i64 0)), none, false, false, [50]⟩,
  ⟨some 52, .mv (.t 51), none, false, false, [51]⟩,
  ⟨some 53, .mv (.t 5), (some (52, true)), true, false, []⟩,
  ⟨some 54, .bin .gtr (.o 53) (.c (.int .i64 8)), (some (52, true)), true, false, [53]⟩,
  ⟨some 55, .pick (.t 52) (.t 54) (.c (.bool false)), none, false, false, [52, 54]⟩])
 (.join [1, 2, 3, 4, 5] (.cond (.t 55)
  (.ops 11 false [⟨some 56, .build [.nils, .int .i64 0] [(1, 1, .c (.int .i64 1))], none, false, false, []⟩,
   ⟨none, .st 2 (.t 1) (.t 56), none, false, false, [56]⟩])
  (.skip))))
 (.seq (.seq (.ops 12 false [⟨some 6, .mv (.c (.int .i64 0)), none, false, false, []⟩])
 (.block 0 (.loop [1, 2, 3, 4, 5, 6] (.seq (.seq (.ops 13 false [⟨some 57, .mv (.t 6), none, false, false, []⟩,
    ⟨some 58, .mv (.t 5), none, false, false, []⟩,
    ⟨some 59, .bin .lss (.t 57) (.t 58), none, false, false, [57, 58]⟩,
    ⟨some 60, .mv (.t 59), none, false, false, [59]⟩,
    ⟨some 61, .fa 1 (.t 1), (some (60, true)), true, false, []⟩,
    ⟨some 62, .ld none [] (.o 61), (some (60, true)), true, false, [61]⟩,
    ⟨some 63, .bin .eql (.o 62) (.c (.int .i64 0)), (some (60, true)), true, false, [62]⟩,
    ⟨some 64, .pick (.t 60) (.t 63) (.c (.bool false)), none, false, false, [60, 63]⟩])
   (.cond (.t 64)
    (.skip)
    (.exit 0)))
   (.seq (.block 1 (.seq (.ops 15 false [⟨some 7, .mv (.c (.int .i64 0)), none, false, false, [7]⟩])
    (.seq (.ops 16 false [⟨some 68, .ld (some 2) [] (.t 1), none, false, false, []⟩,
     ⟨some 69, .call (.c (.fn 39 [] [])) [.t 68], none, false, false, [68]⟩,
     ⟨some 67, .mv (.t 69), none, false, false, [69]⟩,
     ⟨some 70, .ext 0 (.t 67), none, false, false, []⟩,
     ⟨some 71, .ext 1 (.t 67), none, false, false, [67]⟩,
     ⟨none, .st 2 (.t 1) (.t 70), none, false, false, [70]⟩,
     ⟨some 7, .mv (.t 71), none, false, false, [71]⟩])
    (.ops 17 false [⟨some 72, .fa 8 (.t 4), none, false, false, []⟩,
     ⟨some 73, .ld none [] (.t 72), none, false, false, [72]⟩,
     ⟨some 74, .mv (.t 7), none, false, false, [7]⟩,
     ⟨some 75, .rowView 1 [.t 74], none, false, false, [74]⟩,
     ⟨some 76, .app 1 (.t 73) (.t 75), none, false, false, [73, 75]⟩,
     ⟨some 77, .fa 8 (.t 4), none, false, false, []⟩,
     ⟨none, .st 1 (.t 77) (.t 76), none, false, false, [76, 77]⟩]))))
   (.ops 14 false [⟨some 65, .mv (.t 6), none, false, false, [6]⟩,
    ⟨some 66, .bin .add (.t 65) (.c (.int .i64 1)), none, false, false, [65]⟩,
    ⟨some 6, .mv (.t 66), none, false, false, [66]⟩]))))))
 (.seq (.seq (.ops 18 false [⟨some 78, .fa 1 (.t 1), none, false, false, []⟩,
  ⟨some 79, .ld none [] (.t 78), none, false, false, [78]⟩,
  ⟨some 80, .bin .neq (.t 79) (.c (.int .i64 0)), none, false, false, [79]⟩])
 (.cond (.t 80)
  (.seq (.ops 19 false [⟨some 81, .ld (some 2) [] (.t 1), none, false, false, [1]⟩,
   ⟨some 82, .build [.int .i64 0, .int .i64 0, .int .u64 0, .int .u64 0, .int .i64 0, .int .i64 0, .int .i64 0, .int .i64 0, .nils] [], none, false, false, []⟩,
   ⟨none, .st 2 (.t 2) (.t 81), none, false, false, [81]⟩,
   ⟨none, .st 9 (.t 3) (.t 82), none, false, false, [82]⟩])
  (.ret))
  (.skip)))
 (.seq (.ops 20 true [⟨some 83, .ld (some 2) [] (.t 1), none, false, false, [1]⟩,
  ⟨some 84, .ld (some 9) [] (.t 4), none, false, true, [4]⟩,
  ⟨none, .st 2 (.t 2) (.t 83), none, false, false, [83]⟩,
  ⟨none, .st 9 (.t 3) (.t 84), none, false, false, [84]⟩])
 (.ret))))))))))))))
def rs_r29_Spec : List IRes := [.cell 2 (some 2), .cell 3 (some 9)]
theorem ok_r29_Spec : fnOk Tryz.prog 75 ic_r29_Spec rs_r29_Spec 85 = true := by kernel_rfl

/-- tallyman/tallymanref29.Word -/
def ic_r29_Word : ICode :=
 .seq (.ops 0 false [⟨some 1, .box (.t 0), none, false, false, [0]⟩,
  ⟨some 2, .alloc [.nils, .int .i64 0], none, false, false, []⟩,
  ⟨some 3, .mv (.c (.int .u64 0)), none, false, false, [3]⟩])
 (.seq (.seq (.ops 1 false [⟨some 7, .fa 1 (.t 1), none, false, false, []⟩,
  ⟨some 8, .ld none [] (.t 7), none, false, false, [7]⟩,
  ⟨some 9, .bin .neq (.t 8) (.c (.int .i64 0)), none, false, false, [8]⟩])
 (.cond (.t 9)
  (.seq (.ops 2 false [⟨some 10, .ld (some 2) [] (.t 1), none, false, false, [1]⟩,
   ⟨none, .st 2 (.t 2) (.t 10), none, false, false, [10]⟩,
   ⟨some 3, .mv (.c (.int .u64 0)), none, false, false, []⟩])
  (.ret))
  (.skip)))
 (.seq (.ops 3 false [⟨some 12, .fa 0 (.t 1), none, false, false, [1]⟩,
  ⟨some 13, .ld none [] (.t 12), none, false, false, [12]⟩,
  ⟨some 14, .call (.c (.fn 127 [] [])) [.t 13], none, false, false, [13]⟩,
  ⟨some 11, .mv (.t 14), none, false, false, [14]⟩,
  ⟨some 15, .ext 0 (.t 11), none, false, false, []⟩,
  ⟨some 16, .ext 1 (.t 11), none, false, false, []⟩,
  ⟨some 17, .ext 2 (.t 11), none, false, false, [11]⟩,
  ⟨some 4, .mv (.t 15), none, false, false, [15]⟩,
  ⟨some 5, .mv (.t 16), none, false, false, [16]⟩,
  ⟨some 6, .mv (.t 17), none, false, false, [17]⟩])
 (.seq (.seq (.ops 4 false [⟨some 18, .mv (.t 6), none, false, false, []⟩,
  ⟨some 19, .bin .neq (.t 18) (.c (.int .i64 0)), none, false, false, [18]⟩])
 (.cond (.t 19)
  (.seq (.ops 5 false [⟨some 20, .mv (.t 6), none, false, false, [6]⟩,
   ⟨some 21, .build [.nils, .int .i64 0] [(1, 1, .t 20)], none, false, false, [20]⟩,
   ⟨none, .st 2 (.t 2) (.t 21), none, false, false, [21]⟩,
   ⟨some 3, .mv (.c (.int .u64 0)), none, false, false, []⟩])
  (.ret))
  (.skip)))
 (.seq (.ops 6 false [⟨some 22, .mv (.t 5), none, false, false, [5]⟩,
  ⟨some 23, .build [.nils, .int .i64 0] [(0, 1, .t 22)], none, false, false, [22]⟩,
  ⟨some 24, .mv (.t 4), none, false, false, [4]⟩,
  ⟨none, .st 2 (.t 2) (.t 23), none, false, false, [23]⟩,
  ⟨some 3, .mv (.t 24), none, false, false, [24]⟩])
 (.ret)))))
def rs_r29_Word : List IRes := [.cell 2 (some 2), .t 3]
theorem ok_r29_Word : fnOk Tryz.prog 72 ic_r29_Word rs_r29_Word 25 = true := by kernel_rfl

/-- tallyman/tallymanref29.numbers -/
def ic_r29_numbers : ICode :=
 .seq (.ops 0 false [⟨some 4, .mv (.c (.nils)), none, false, false, [4]⟩])
 (.seq (.seq (.ops 1 false [⟨some 5, .mv (.c (.int .i64 0)), none, false, false, []⟩])
 (.block 0 (.loop [0, 1, 5] (.seq (.seq (.ops 2 false [⟨some 6, .mv (.t 5), none, false, false, []⟩,
    ⟨some 7, .mv (.t 1), none, false, false, []⟩,
    ⟨some 8, .len (.t 7), none, false, false, [7]⟩,
    ⟨some 9, .bin .lss (.t 6) (.t 8), none, false, false, [6, 8]⟩])
   (.cond (.t 9)
    (.skip)
    (.exit 0)))
   (.seq (.block 1 (.ops 4 false [⟨some 12, .mv (.t 0), none, false, false, [0]⟩,
     ⟨some 13, .mv (.t 1), none, false, false, []⟩,
     ⟨some 14, .mv (.t 5), none, false, false, []⟩,
     ⟨some 15, .ia 1 [.int .u64 0] (.t 13) (.t 14), none, false, false, [13, 14]⟩,
     ⟨some 16, .ld none [.int .u64 0] (.t 15), none, false, false, [15]⟩,
     ⟨some 17, .call (.c (.fn 64 [] [])) [.t 12, .t 16], none, false, false, [12, 16]⟩,
     ⟨some 0, .mv (.t 17), none, false, false, [17]⟩]))
   (.ops 3 false [⟨some 10, .mv (.t 5), none, false, false, [5]⟩,
    ⟨some 11, .bin .add (.t 10) (.c (.int .i64 1)), none, false, false, [10]⟩,
    ⟨some 5, .mv (.t 11), none, false, false, [11]⟩]))))))
 (.seq (.ops 5 false [⟨some 18, .mv (.t 0), none, false, false, [0]⟩,
  ⟨some 4, .mv (.t 18), none, false, false, [18]⟩])
 (.ret)))
def rs_r29_numbers : List IRes := [.t 4]
theorem ok_r29_numbers : fnOk Tryz.prog 66 ic_r29_numbers rs_r29_numbers 19 = true := by kernel_rfl

end Go.Proofs.YtnckibgcjgeekaaGreat.Sx
