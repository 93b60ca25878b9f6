/- Functions of the seat in the small language. No conditions: a kit of our own. -/
import Derived.Test.YtnjpfoblmomnlaaProg
import Derived.Test.YtnjpfoblmomnlaaSx17
namespace Go.Proofs.Ytnjpfoblmomnlaa.Sx
open Go Go.RowKit
set_option linter.unusedVariables false

/-- slices.Contains(()int,int) -/
def ic_slices_Contains_int_int : ICode :=
 .seq (.ops 0 false [⟨some 4, .mv (.c (.bool false)), none, false, false, [4]⟩])
 (.seq (.ops 1 false [⟨some 5, .mv (.t 0), none, false, false, [0]⟩,
  ⟨some 6, .mv (.t 1), none, false, false, [1]⟩,
  ⟨some 7, .call (.c (.fn 212 [] [])) [.t 5, .t 6], none, false, false, [5, 6]⟩,
  ⟨some 8, .bin .geq (.t 7) (.c (.int .i64 0)), none, false, false, [7]⟩,
  ⟨some 4, .mv (.t 8), none, false, false, [8]⟩])
 (.ret))
def rs_slices_Contains_int_int : List IRes := [.t 4]
theorem ok_slices_Contains_int_int : fnOk Try.prog 124 ic_slices_Contains_int_int rs_slices_Contains_int_int 9 = true := by kernel_rfl

/-- slices.Index(()int,int) -/
def ic_slices_Index_int_int : ICode :=
 .seq (.ops 0 false [⟨some 4, .mv (.c (.int .i64 0)), none, false, false, [4]⟩])
 (.seq (.seq (.ops 1 false [⟨some 6, .mv (.t 0), none, false, false, []⟩,
  ⟨some 7, .len (.t 6), none, false, false, [6]⟩,
  ⟨some 8, .mv (.c (.int .i64 0)), none, false, false, []⟩])
 (.block 0 (.loop [0, 1, 7, 8] (.seq (.ops 2 false [⟨some 9, .bin .lss (.t 8) (.t 7), none, false, false, []⟩])
   (.seq (.cond (.t 9)
    (.skip)
    (.exit 0))
   (.seq (.block 1 (.seq (.ops 3 false [⟨some 10, .mv (.t 8), none, false, false, []⟩,
     ⟨some 5, .mv (.t 10), none, false, false, [10]⟩])
    (.seq (.ops 4 false [⟨some 11, .mv (.t 1), none, false, false, []⟩,
     ⟨some 12, .mv (.t 0), none, false, false, []⟩,
     ⟨some 13, .mv (.t 5), none, false, false, []⟩,
     ⟨some 14, .ia 1 [.int .i64 0] (.t 12) (.t 13), none, false, false, [12, 13]⟩,
     ⟨some 15, .ld none [.int .i64 0] (.t 14), none, false, false, [14]⟩,
     ⟨some 16, .bin .eql (.t 11) (.t 15), none, false, false, [11, 15]⟩])
    (.cond (.t 16)
     (.seq (.ops 5 false [⟨some 17, .mv (.t 5), none, false, false, [5]⟩,
      ⟨some 4, .mv (.t 17), none, false, false, [17]⟩])
     (.ret))
     (.skip)))))
   (.ops 6 false [⟨some 18, .bin .add (.t 8) (.c (.int .i64 1)), none, false, false, [8]⟩,
    ⟨some 8, .mv (.t 18), none, false, false, [18]⟩])))))))
 (.seq (.ops 7 false [⟨some 4, .mv (.c (.int .i64 (-1))), none, false, false, []⟩])
 (.ret)))
def rs_slices_Index_int_int : List IRes := [.t 4]
theorem ok_slices_Index_int_int : fnOk Try.prog 212 ic_slices_Index_int_int rs_slices_Index_int_int 19 = true := by kernel_rfl

/-- tallyman/idset.Has -/
def ic_idset_Has : ICode :=
 .seq (.ops 0 false [⟨some 4, .mv (.c (.bool false)), none, false, false, [4]⟩])
 (.seq (.ops 1 false [⟨some 5, .mv (.t 0), none, false, false, [0]⟩,
  ⟨some 6, .mv (.t 1), none, false, false, [1]⟩,
  ⟨some 7, .call (.c (.fn 124 [] [])) [.t 5, .t 6], none, false, false, [5, 6]⟩,
  ⟨some 4, .mv (.t 7), none, false, false, [7]⟩])
 (.ret))
def rs_idset_Has : List IRes := [.t 4]
theorem ok_idset_Has : fnOk Try.prog 203 ic_idset_Has rs_idset_Has 8 = true := by kernel_rfl

/-- tallyman/idset.Right -/
def ic_idset_Right : ICode :=
 .seq (.ops 0 false [⟨some 2, .mv (.c (.bool false)), none, false, false, [2]⟩])
 (.back [0, 3] (.seq (.ops 1 false [⟨some 3, .mv (.c (.int .i64 1)), none, false, false, []⟩])
 (.label 0)) 0
  (.seq (.seq (.ops 2 false [⟨some 4, .mv (.t 3), none, false, false, []⟩,
   ⟨some 5, .mv (.t 0), none, false, false, []⟩,
   ⟨some 6, .len (.t 5), none, false, false, [5]⟩,
   ⟨some 7, .bin .geq (.t 4) (.t 6), none, false, false, [4, 6]⟩])
  (.cond (.t 7)
   (.seq (.ops 3 false [⟨some 2, .mv (.c (.bool true)), none, false, false, []⟩])
   (.ret))
   (.skip)))
  (.seq (.seq (.ops 4 true [⟨some 8, .mv (.t 0), none, false, false, []⟩,
   ⟨some 9, .mv (.t 3), none, false, false, []⟩,
   ⟨some 10, .bin .sub (.t 9) (.c (.int .i64 1)), none, false, false, [9]⟩,
   ⟨some 11, .ia 1 [.int .i64 0] (.t 8) (.t 10), none, false, false, [8, 10]⟩,
   ⟨some 12, .ld none [.int .i64 0] (.t 11), none, false, false, [11]⟩,
   ⟨some 13, .mv (.t 0), none, false, false, []⟩,
   ⟨some 14, .mv (.t 3), none, false, false, []⟩,
   ⟨some 15, .ia 1 [.int .i64 0] (.t 13) (.t 14), none, false, false, [13, 14]⟩,
   ⟨some 16, .ld none [.int .i64 0] (.t 15), none, false, false, [15]⟩,
   ⟨some 17, .bin .lss (.t 12) (.t 16), none, false, false, [12, 16]⟩])
  (.cond (.t 17)
   (.seq (.ops 5 false [⟨some 18, .mv (.t 3), none, false, false, [3]⟩,
    ⟨some 19, .bin .add (.t 18) (.c (.int .i64 1)), none, false, false, [18]⟩,
    ⟨some 3, .mv (.t 19), none, false, false, [19]⟩])
   (.goto 0))
   (.skip)))
  (.seq (.ops 6 false [⟨some 2, .mv (.c (.bool false)), none, false, false, []⟩])
  (.ret)))))
def rs_idset_Right : List IRes := [.t 2]
theorem ok_idset_Right : fnOk Try.prog 127 ic_idset_Right rs_idset_Right 20 = true := by kernel_rfl

/-- tallyman/tallymanref01.Ints -/
def ic_r01_Ints : ICode :=
 .seq (.ops 0 false [⟨some 4, .mv (.c (.bool false)), none, false, false, [4]⟩])
 (.seq (.seq (.ops 1 false [⟨some 6, .mv (.t 0), none, false, false, []⟩,
  ⟨some 7, .len (.t 6), none, false, false, [6]⟩,
  ⟨some 8, .mv (.t 1), none, false, false, []⟩,
  ⟨some 9, .len (.t 8), none, false, false, [8]⟩,
  ⟨some 10, .bin .neq (.t 7) (.t 9), none, false, false, [7, 9]⟩])
 (.cond (.t 10)
  (.seq (.ops 2 false [⟨some 4, .mv (.c (.bool false)), none, false, false, []⟩])
  (.ret))
  (.skip)))
 (.seq (.seq (.ops 3 false [⟨some 5, .mv (.c (.int .i64 0)), none, false, false, []⟩])
 (.block 0 (.loop [0, 1, 5] (.seq (.seq (.ops 4 false [⟨some 11, .mv (.t 5), none, false, false, []⟩,
    ⟨some 12, .mv (.t 0), none, false, false, []⟩,
    ⟨some 13, .len (.t 12), none, false, false, [12]⟩,
    ⟨some 14, .bin .lss (.t 11) (.t 13), none, false, false, [11, 13]⟩])
   (.cond (.t 14)
    (.skip)
    (.exit 0)))
   (.seq (.block 1 (.seq (.ops 6 true [⟨some 17, .mv (.t 0), none, false, false, []⟩,
     ⟨some 18, .mv (.t 5), none, false, false, []⟩,
     ⟨some 19, .ia 1 [.int .i64 0] (.t 17) (.t 18), none, false, false, [17, 18]⟩,
     ⟨some 20, .ld none [.int .i64 0] (.t 19), none, false, false, [19]⟩,
     ⟨some 21, .mv (.t 1), none, false, false, []⟩,
     ⟨some 22, .mv (.t 5), none, false, false, []⟩,
     ⟨some 23, .ia 1 [.int .i64 0] (.t 21) (.t 22), none, false, false, [21, 22]⟩,
     ⟨some 24, .ld none [.int .i64 0] (.t 23), none, false, false, [23]⟩,
     ⟨some 25, .bin .neq (.t 20) (.t 24), none, false, false, [20, 24]⟩])
    (.cond (.t 25)
     (.seq (.ops 7 false [⟨some 4, .mv (.c (.bool false)), none, false, false, []⟩])
     (.ret))
     (.skip))))
   (.ops 5 false [⟨some 15, .mv (.t 5), none, false, false, [5]⟩,
    ⟨some 16, .bin .add (.t 15) (.c (.int .i64 1)), none, false, false, [15]⟩,
    ⟨some 5, .mv (.t 16), none, false, false, [16]⟩]))))))
 (.seq (.ops 8 false [⟨some 4, .mv (.c (.bool true)), none, false, false, []⟩])
 (.ret))))
def rs_r01_Ints : List IRes := [.t 4]
theorem ok_r01_Ints : fnOk Try.prog 31 ic_r01_Ints rs_r01_Ints 26 = true := by kernel_rfl

/-- tallyman/tallymanref16.In -/
def ic_r16_In : ICode :=
 .seq (.ops 0 false [⟨some 4, .mv (.c (.bool false)), none, false, false, [4]⟩])
 (.seq (.seq (.ops 1 false [⟨some 5, .mv (.c (.int .i64 0)), none, false, false, []⟩])
 (.block 0 (.loop [0, 1, 5] (.seq (.seq (.ops 2 false [⟨some 6, .mv (.t 5), none, false, false, []⟩,
    ⟨some 7, .mv (.t 0), none, false, false, []⟩,
    ⟨some 8, .len (.t 7), none, false, false, [7]⟩,
    ⟨some 9, .bin .lss (.t 6) (.t 8), none, false, false, [6, 8]⟩])
   (.cond (.t 9)
    (.skip)
    (.exit 0)))
   (.seq (.block 1 (.seq (.ops 4 false [⟨some 12, .mv (.t 0), none, false, false, []⟩,
     ⟨some 13, .mv (.t 5), none, false, false, []⟩,
     ⟨some 14, .ia 1 [.int .i64 0] (.t 12) (.t 13), none, false, false, [12, 13]⟩,
     ⟨some 15, .ld none [.int .i64 0] (.t 14), none, false, false, [14]⟩,
     ⟨some 16, .mv (.t 1), none, false, false, []⟩,
     ⟨some 17, .bin .eql (.t 15) (.t 16), none, false, false, [15, 16]⟩])
    (.cond (.t 17)
     (.seq (.ops 5 false [⟨some 4, .mv (.c (.bool true)), none, false, false, []⟩])
     (.ret))
     (.skip))))
   (.ops 3 false [⟨some 10, .mv (.t 5), none, false, false, [5]⟩,
    ⟨some 11, .bin .add (.t 10) (.c (.int .i64 1)), none, false, false, [10]⟩,
    ⟨some 5, .mv (.t 11), none, false, false, [11]⟩]))))))
 (.seq (.ops 6 false [⟨some 4, .mv (.c (.bool false)), none, false, false, []⟩])
 (.ret)))
def rs_r16_In : List IRes := [.t 4]
theorem ok_r16_In : fnOk Try.prog 52 ic_r16_In rs_r16_In 18 = true := by kernel_rfl

/-- tallyman/tallymanref17.Right -/
def ic_r17_Right : ICode :=
 .seq (.ops 0 false [⟨some 2, .mv (.c (.bool false)), none, false, false, [2]⟩])
 (.seq (.seq (.ops 1 false [⟨some 3, .mv (.c (.int .i64 1)), none, false, false, []⟩])
 (.block 0 (.loop [0, 3] (.seq (.seq (.ops 2 false [⟨some 4, .mv (.t 3), none, false, false, []⟩,
    ⟨some 5, .mv (.t 0), none, false, false, []⟩,
    ⟨some 6, .len (.t 5), none, false, false, [5]⟩,
    ⟨some 7, .bin .lss (.t 4) (.t 6), none, false, false, [4, 6]⟩])
   (.cond (.t 7)
    (.skip)
    (.exit 0)))
   (.seq (.block 1 (.seq (.ops 4 true [⟨some 10, .mv (.t 0), none, false, false, []⟩,
     ⟨some 11, .mv (.t 3), none, false, false, []⟩,
     ⟨some 12, .ia 1 [.int .i64 0] (.t 10) (.t 11), none, false, false, [10, 11]⟩,
     ⟨some 13, .ld none [.int .i64 0] (.t 12), none, false, false, [12]⟩,
     ⟨some 14, .mv (.t 0), none, false, false, []⟩,
     ⟨some 15, .mv (.t 3), none, false, false, []⟩,
     ⟨some 16, .bin .sub (.t 15) (.c (.int .i64 1)), none, false, false, [15]⟩,
     ⟨some 17, .ia 1 [.int .i64 0] (.t 14) (.t 16), none, false, false, [14, 16]⟩,
     ⟨some 18, .ld none [.int .i64 0] (.t 17), none, false, false, [17]⟩,
     ⟨some 19, .bin .leq (.t 13) (.t 18), none, false, false, [13, 18]⟩])
    (.cond (.t 19)
     (.seq (.ops 5 false [⟨some 2, .mv (.c (.bool false)), none, false, false, []⟩])
     (.ret))
     (.skip))))
   (.ops 3 false [⟨some 8, .mv (.t 3), none, false, false, [3]⟩,
    ⟨some 9, .bin .add (.t 8) (.c (.int .i64 1)), none, false, false, [8]⟩,
    ⟨some 3, .mv (.t 9), none, false, false, [9]⟩]))))))
 (.seq (.ops 6 false [⟨some 2, .mv (.c (.bool true)), none, false, false, []⟩])
 (.ret)))
def rs_r17_Right : List IRes := [.t 2]
theorem ok_r17_Right : fnOk Try.prog 126 ic_r17_Right rs_r17_Right 20 = true := by kernel_rfl

end Go.Proofs.Ytnjpfoblmomnlaa.Sx
