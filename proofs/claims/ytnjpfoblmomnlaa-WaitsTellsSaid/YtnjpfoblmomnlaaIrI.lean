/- Functions of the seat in the small language. No conditions: a kit of our own. -/
import Derived.Test.YtnjpfoblmomnlaaProg
import Derived.Test.YtnjpfoblmomnlaaSx17
namespace Go.Proofs.Ytnjpfoblmomnlaa.Sx
open Go Go.RowKit
set_option linter.unusedVariables false

/-- slices.Compact(()int,int) -/
def ic_slices_Compact_int_int : ICode :=
 .seq (.ops 0 false [⟨some 2, .mv (.c (.nils)), none, false, false, [2]⟩])
 (.seq (.seq (.ops 1 false [⟨some 6, .mv (.t 0), none, false, false, []⟩,
  ⟨some 7, .len (.t 6), none, false, false, [6]⟩,
  ⟨some 8, .bin .lss (.t 7) (.c (.int .i64 2)), none, false, false, [7]⟩])
 (.cond (.t 8)
  (.seq (.ops 2 false [⟨some 9, .mv (.t 0), none, false, false, [0]⟩,
   ⟨some 2, .mv (.t 9), none, false, false, [9]⟩])
  (.ret))
  (.skip)))
 (.seq (.seq (.ops 3 false [⟨some 3, .mv (.c (.int .i64 1)), none, false, false, []⟩])
 (.block 0 (.loop [0, 3] (.seq (.seq (.ops 4 false [⟨some 10, .mv (.t 3), none, false, false, []⟩,
    ⟨some 11, .mv (.t 0), none, false, false, []⟩,
    ⟨some 12, .len (.t 11), none, false, false, [11]⟩,
    ⟨some 13, .bin .lss (.t 10) (.t 12), none, false, false, [10, 12]⟩])
   (.cond (.t 13)
    (.skip)
    (.exit 0)))
   (.seq (.block 1 (.seq (.ops 6 true [⟨some 16, .mv (.t 0), none, false, false, []⟩,
     ⟨some 17, .mv (.t 3), none, false, false, []⟩,
     ⟨some 18, .ia 1 [.int .i64 0] (.t 16) (.t 17), none, false, false, [16, 17]⟩,
     ⟨some 19, .ld none [.int .i64 0] (.t 18), none, false, false, [18]⟩,
     ⟨some 20, .mv (.t 0), none, false, false, []⟩,
     ⟨some 21, .mv (.t 3), none, false, false, []⟩,
     ⟨some 22, .bin .sub (.t 21) (.c (.int .i64 1)), none, false, false, [21]⟩,
     ⟨some 23, .ia 1 [.int .i64 0] (.t 20) (.t 22), none, false, false, [20, 22]⟩,
     ⟨some 24, .ld none [.int .i64 0] (.t 23), none, false, false, [23]⟩,
     ⟨some 25, .bin .eql (.t 19) (.t 24), none, false, false, [19, 24]⟩])
    (.cond (.t 25)
     (.seq (.ops 7 false [⟨some 26, .mv (.t 0), none, false, false, []⟩,
      ⟨some 27, .mv (.t 3), none, false, false, []⟩,
      ⟨some 28, .slc 1 (.t 26) (some (.t 27)) none, none, false, false, [26, 27]⟩,
      ⟨some 4, .mv (.t 28), none, false, false, [28]⟩])
     (.seq (.seq (.ops 8 false [⟨some 5, .mv (.c (.int .i64 1)), none, false, false, []⟩])
     (.block 2 (.loop [0, 3, 4, 5] (.seq (.seq (.ops 9 false [⟨some 29, .mv (.t 5), none, false, false, []⟩,
        ⟨some 30, .mv (.t 4), none, false, false, []⟩,
        ⟨some 31, .len (.t 30), none, false, false, [30]⟩,
        ⟨some 32, .bin .lss (.t 29) (.t 31), none, false, false, [29, 31]⟩])
       (.cond (.t 32)
        (.skip)
        (.exit 2)))
       (.seq (.block 3 (.seq (.ops 11 true [⟨some 35, .mv (.t 4), none, false, false, []⟩,
         ⟨some 36, .mv (.t 5), none, false, false, []⟩,
         ⟨some 37, .ia 1 [.int .i64 0] (.t 35) (.t 36), none, false, false, [35, 36]⟩,
         ⟨some 38, .ld none [.int .i64 0] (.t 37), none, false, false, [37]⟩,
         ⟨some 39, .mv (.t 4), none, false, false, []⟩,
         ⟨some 40, .mv (.t 5), none, false, false, []⟩,
         ⟨some 41, .bin .sub (.t 40) (.c (.int .i64 1)), none, false, false, [40]⟩,
         ⟨some 42, .ia 1 [.int .i64 0] (.t 39) (.t 41), none, false, false, [39, 41]⟩,
         ⟨some 43, .ld none [.int .i64 0] (.t 42), none, false, false, [42]⟩,
         ⟨some 44, .bin .neq (.t 38) (.t 43), none, false, false, [38, 43]⟩])
        (.cond (.t 44)
         (.seq (.ops 12 false [⟨some 45, .mv (.t 0), none, false, false, []⟩,
          ⟨some 46, .mv (.t 3), none, false, false, []⟩,
          ⟨some 47, .mv (.t 4), none, false, false, []⟩,
          ⟨some 48, .mv (.t 5), none, false, false, []⟩,
          ⟨some 49, .ia 1 [.int .i64 0] (.t 47) (.t 48), none, false, false, [47, 48]⟩,
          ⟨some 50, .ld none [.int .i64 0] (.t 49), none, false, false, [49]⟩,
          ⟨some 51, .ia 1 [.int .i64 0] (.t 45) (.t 46), none, false, false, [45, 46]⟩,
          ⟨none, .st 1 (.t 51) (.t 50), none, false, false, [50, 51]⟩])
         (.ops 13 false [⟨some 52, .mv (.t 3), none, false, false, [3]⟩,
          ⟨some 53, .bin .add (.t 52) (.c (.int .i64 1)), none, false, false, [52]⟩,
          ⟨some 3, .mv (.t 53), none, false, false, [53]⟩]))
         (.skip))))
       (.ops 10 false [⟨some 33, .mv (.t 5), none, false, false, [5]⟩,
        ⟨some 34, .bin .add (.t 33) (.c (.int .i64 1)), none, false, false, [33]⟩,
        ⟨some 5, .mv (.t 34), none, false, false, [34]⟩]))))))
     (.seq (.ops 14 false [⟨some 54, .mv (.t 0), none, false, false, []⟩,
      ⟨some 55, .mv (.t 3), none, false, false, []⟩,
      ⟨some 56, .slc 1 (.t 54) (some (.t 55)) none, none, false, false, [54, 55]⟩,
      ⟨none, .clr 1 [.int .i64 0] (.t 56), none, false, false, [56]⟩])
     (.seq (.ops 15 false [⟨some 57, .mv (.t 0), none, false, false, [0]⟩,
      ⟨some 58, .mv (.t 3), none, false, false, [3]⟩,
      ⟨some 59, .slc 1 (.t 57) none (some (.t 58)), none, false, false, [57, 58]⟩,
      ⟨some 2, .mv (.t 59), none, false, false, [59]⟩])
     (.ret)))))
     (.skip))))
   (.ops 5 false [⟨some 14, .mv (.t 3), none, false, false, [3]⟩,
    ⟨some 15, .bin .add (.t 14) (.c (.int .i64 1)), none, false, false, [14]⟩,
    ⟨some 3, .mv (.t 15), none, false, false, [15]⟩]))))))
 (.seq (.ops 16 false [⟨some 60, .mv (.t 0), none, false, false, [0]⟩,
  ⟨some 2, .mv (.t 60), none, false, false, [60]⟩])
 (.ret))))
def rs_slices_Compact_int_int : List IRes := [.t 2]
theorem ok_slices_Compact_int_int : fnOk Try.prog 257 ic_slices_Compact_int_int rs_slices_Compact_int_int 61 = true := by kernel_rfl

/-- tallyman/tallymanref16.Set -/
def ic_r16_Set : ICode :=
 .seq (.ops 0 false [⟨some 2, .mv (.c (.nils)), none, false, false, [2]⟩])
 (.seq (.ops 1 false [⟨some 3, .mv (.c (.nils)), none, false, false, []⟩])
 (.seq (.seq (.ops 2 false [⟨some 4, .mv (.c (.int .i64 0)), none, false, false, []⟩])
 (.block 0 (.loop [0, 3, 4] (.seq (.seq (.ops 3 false [⟨some 8, .mv (.t 4), none, false, false, []⟩,
    ⟨some 9, .mv (.t 0), none, false, false, []⟩,
    ⟨some 10, .len (.t 9), none, false, false, [9]⟩,
    ⟨some 11, .bin .lss (.t 8) (.t 10), none, false, false, [8, 10]⟩])
   (.cond (.t 11)
    (.skip)
    (.exit 0)))
   (.seq (.block 1 (.seq (.ops 5 false [⟨some 5, .mv (.c (.nils)), none, false, false, []⟩])
    (.seq (.ops 6 false [⟨some 6, .mv (.c (.bool false)), none, false, false, []⟩])
    (.seq (.seq (.ops 7 false [⟨some 7, .mv (.c (.int .i64 0)), none, false, false, []⟩])
    (.block 2 (.loop [0, 3, 4, 5, 6, 7] (.seq (.seq (.ops 8 false [⟨some 14, .mv (.t 7), none, false, false, []⟩,
       ⟨some 15, .mv (.t 3), none, false, false, []⟩,
       ⟨some 16, .len (.t 15), none, false, false, [15]⟩,
       ⟨some 17, .bin .lss (.t 14) (.t 16), none, false, false, [14, 16]⟩])
      (.cond (.t 17)
       (.skip)
       (.exit 2)))
      (.seq (.block 3 (.seq (.seq (.ops 10 true [⟨some 20, .mv (.t 6), none, false, false, []⟩,
        ⟨some 21, .not (.t 20), none, false, false, [20]⟩,
        ⟨some 22, .mv (.t 21), none, false, false, [21]⟩,
        ⟨some 23, .mv (.t 0), (some (22, true)), true, false, []⟩,
        ⟨some 24, .mv (.t 4), (some (22, true)), true, false, []⟩,
        ⟨some 25, .ia 1 [.int .i64 0] (.o 23) (.o 24), (some (22, true)), true, false, [23, 24]⟩,
        ⟨some 26, .ld none [.int .i64 0] (.o 25), (some (22, true)), true, false, [25]⟩,
        ⟨some 27, .mv (.t 3), (some (22, true)), true, false, []⟩,
        ⟨some 28, .mv (.t 7), (some (22, true)), true, false, []⟩,
        ⟨some 29, .ia 1 [.int .i64 0] (.o 27) (.o 28), (some (22, true)), true, false, [27, 28]⟩,
        ⟨some 30, .ld none [.int .i64 0] (.o 29), (some (22, true)), true, false, [29]⟩,
        ⟨some 31, .bin .leq (.o 26) (.o 30), (some (22, true)), true, false, [26, 30]⟩,
        ⟨some 32, .pick (.t 22) (.t 31) (.c (.bool false)), none, false, false, [22, 31]⟩])
       (.cond (.t 32)
        (.seq (.ops 11 false [⟨some 33, .mv (.t 5), none, false, false, [5]⟩,
         ⟨some 34, .mv (.t 0), none, false, false, []⟩,
         ⟨some 35, .mv (.t 4), none, false, false, []⟩,
         ⟨some 36, .ia 1 [.int .i64 0] (.t 34) (.t 35), none, false, false, [34, 35]⟩,
         ⟨some 37, .ld none [.int .i64 0] (.t 36), none, false, false, [36]⟩,
         ⟨some 38, .rowView 1 [.t 37], none, false, false, [37]⟩,
         ⟨some 39, .app 1 (.t 33) (.t 38), none, false, false, [33, 38]⟩,
         ⟨some 5, .mv (.t 39), none, false, false, [39]⟩])
        (.ops 12 false [⟨some 6, .mv (.c (.bool true)), none, false, false, []⟩]))
        (.skip)))
       (.seq (.ops 13 true [⟨some 40, .mv (.t 3), none, false, false, []⟩,
        ⟨some 41, .mv (.t 7), none, false, false, []⟩,
        ⟨some 42, .ia 1 [.int .i64 0] (.t 40) (.t 41), none, false, false, [40, 41]⟩,
        ⟨some 43, .ld none [.int .i64 0] (.t 42), none, false, false, [42]⟩,
        ⟨some 44, .mv (.t 0), none, false, false, []⟩,
        ⟨some 45, .mv (.t 4), none, false, false, []⟩,
        ⟨some 46, .ia 1 [.int .i64 0] (.t 44) (.t 45), none, false, false, [44, 45]⟩,
        ⟨some 47, .ld none [.int .i64 0] (.t 46), none, false, false, [46]⟩,
        ⟨some 48, .bin .neq (.t 43) (.t 47), none, false, false, [43, 47]⟩])
       (.cond (.t 48)
        (.ops 14 false [⟨some 49, .mv (.t 5), none, false, false, [5]⟩,
         ⟨some 50, .mv (.t 3), none, false, false, []⟩,
         ⟨some 51, .mv (.t 7), none, false, false, []⟩,
         ⟨some 52, .ia 1 [.int .i64 0] (.t 50) (.t 51), none, false, false, [50, 51]⟩,
         ⟨some 53, .ld none [.int .i64 0] (.t 52), none, false, false, [52]⟩,
         ⟨some 54, .rowView 1 [.t 53], none, false, false, [53]⟩,
         ⟨some 55, .app 1 (.t 49) (.t 54), none, false, false, [49, 54]⟩,
         ⟨some 5, .mv (.t 55), none, false, false, [55]⟩])
        (.skip)))))
      (.ops 9 false [⟨some 18, .mv (.t 7), none, false, false, [7]⟩,
       ⟨some 19, .bin .add (.t 18) (.c (.int .i64 1)), none, false, false, [18]⟩,
       ⟨some 7, .mv (.t 19), none, false, false, [19]⟩]))))))
    (.seq (.seq (.ops 15 false [⟨some 56, .mv (.t 6), none, false, false, [6]⟩,
     ⟨some 57, .not (.t 56), none, false, false, [56]⟩])
    (.cond (.t 57)
     (.ops 16 false [⟨some 58, .mv (.t 5), none, false, false, [5]⟩,
      ⟨some 59, .mv (.t 0), none, false, false, []⟩,
      ⟨some 60, .mv (.t 4), none, false, false, []⟩,
      ⟨some 61, .ia 1 [.int .i64 0] (.t 59) (.t 60), none, false, false, [59, 60]⟩,
      ⟨some 62, .ld none [.int .i64 0] (.t 61), none, false, false, [61]⟩,
      ⟨some 63, .rowView 1 [.t 62], none, false, false, [62]⟩,
      ⟨some 64, .app 1 (.t 58) (.t 63), none, false, false, [58, 63]⟩,
      ⟨some 5, .mv (.t 64), none, false, false, [64]⟩])
     (.skip)))
    (.ops 17 false [⟨some 65, .mv (.t 5), none, false, false, [5]⟩,
     ⟨some 3, .mv (.t 65), none, false, false, [65]⟩]))))))
   (.ops 4 false [⟨some 12, .mv (.t 4), none, false, false, [4]⟩,
    ⟨some 13, .bin .add (.t 12) (.c (.int .i64 1)), none, false, false, [12]⟩,
    ⟨some 4, .mv (.t 13), none, false, false, [13]⟩]))))))
 (.seq (.ops 18 false [⟨some 66, .mv (.t 3), none, false, false, [3]⟩,
  ⟨some 2, .mv (.t 66), none, false, false, [66]⟩])
 (.ret))))
def rs_r16_Set : List IRes := [.t 2]
theorem ok_r16_Set : fnOk Try.prog 210 ic_r16_Set rs_r16_Set 67 = true := by kernel_rfl

end Go.Proofs.Ytnjpfoblmomnlaa.Sx
