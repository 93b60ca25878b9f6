/- Functions of the seat in the small language. No conditions: a kit of our own. -/
import Derived.Test.YtoapfffakfmioaaProg
import Derived.Test.YtoapfffakfmioaaSx17
namespace Go.Proofs.Ytoapfffakfmioaa.Sx
open Go Go.RowKit
set_option linter.unusedVariables false

/-- tallyman/tallymanlaw30.StateFinds -/
def ic_l30_StateFinds : ICode :=
 .seq (.ops 0 false [⟨some 2, .box (.t 0), none, false, false, [0]⟩,
  ⟨some 4, .mv (.c (.bool false)), none, false, false, [4]⟩])
 (.seq (.seq (.ops 1 false [⟨some 21, .ld (some 8) [] (.t 2), none, false, false, []⟩,
  ⟨some 22, .call (.c (.fn 25 [] [])) [.t 21], none, false, false, [21]⟩,
  ⟨some 23, .not (.t 22), none, false, false, [22]⟩])
 (.cond (.t 23)
  (.seq (.ops 2 false [⟨some 24, .call (.c (.fn 26 [] [])) [], none, false, false, []⟩,
   ⟨some 4, .mv (.t 24), none, false, false, [24]⟩])
  (.ret))
  (.skip)))
 (.seq (.ops 3 false [⟨some 26, .ld (some 8) [] (.t 2), none, false, false, []⟩,
  ⟨some 27, .mv (.t 1), none, false, false, []⟩,
  ⟨some 28, .call (.c (.fn 33 [] [])) [.t 26, .t 27], none, false, false, [26, 27]⟩,
  ⟨some 25, .mv (.t 28), none, false, false, [28]⟩,
  ⟨some 29, .ext 0 (.t 25), none, false, false, []⟩,
  ⟨some 30, .ext 1 (.t 25), none, false, false, [25]⟩,
  ⟨some 5, .alloc [.int .i64 0, .int .i64 0, .int .u64 0, .int .u64 0, .int .i64 0, .int .i64 0, .int .i64 0, .int .i64 0, .nils, .int .i64 0, .int .i64 0, .int .i64 0, .int .i64 0, .nils], none, false, false, []⟩,
  ⟨none, .st 14 (.t 5) (.t 29), none, false, false, [29]⟩,
  ⟨some 6, .mv (.t 30), none, false, false, [30]⟩])
 (.seq (.ops 4 false [⟨some 32, .ld (some 8) [] (.t 2), none, false, false, []⟩,
  ⟨some 33, .mv (.t 1), none, false, false, []⟩,
  ⟨some 34, .call (.c (.fn 34 [] [])) [.t 32, .t 33], none, false, false, [32, 33]⟩,
  ⟨some 31, .mv (.t 34), none, false, false, [34]⟩,
  ⟨some 35, .ext 0 (.t 31), none, false, false, []⟩,
  ⟨some 36, .ext 1 (.t 31), none, false, false, [31]⟩,
  ⟨some 7, .alloc [.int .i64 0, .int .u64 0, .bool false], none, false, false, []⟩,
  ⟨none, .st 3 (.t 7) (.t 35), none, false, false, [35]⟩,
  ⟨some 8, .mv (.t 36), none, false, false, [36]⟩])
 (.seq (.ops 5 false [⟨some 38, .ld (some 8) [] (.t 2), none, false, false, []⟩,
  ⟨some 39, .mv (.t 1), none, false, false, []⟩,
  ⟨some 40, .call (.c (.fn 35 [] [])) [.t 38, .t 39], none, false, false, [38, 39]⟩,
  ⟨some 37, .mv (.t 40), none, false, false, [40]⟩,
  ⟨some 41, .ext 0 (.t 37), none, false, false, []⟩,
  ⟨some 42, .ext 1 (.t 37), none, false, false, [37]⟩,
  ⟨some 9, .alloc [.int .i64 0, .int .u64 0, .bool false], none, false, false, []⟩,
  ⟨none, .st 3 (.t 9) (.t 41), none, false, false, [41]⟩,
  ⟨some 10, .mv (.t 42), none, false, false, [42]⟩])
 (.seq (.ops 6 false [⟨some 44, .ld (some 8) [] (.t 2), none, false, false, []⟩,
  ⟨some 45, .mv (.t 1), none, false, false, []⟩,
  ⟨some 46, .call (.c (.fn 36 [] [])) [.t 44, .t 45], none, false, false, [44, 45]⟩,
  ⟨some 43, .mv (.t 46), none, false, false, [46]⟩,
  ⟨some 47, .ext 0 (.t 43), none, false, false, []⟩,
  ⟨some 48, .ext 1 (.t 43), none, false, false, [43]⟩,
  ⟨some 11, .alloc [.int .i64 0, .int .i64 0, .int .i64 0, .int .i64 0, .int .i64 0, .int .i64 0, .nils], none, false, false, []⟩,
  ⟨none, .st 7 (.t 11) (.t 47), none, false, false, [47]⟩,
  ⟨some 12, .mv (.t 48), none, false, false, [48]⟩])
 (.seq (.ops 7 false [⟨some 50, .ld (some 8) [] (.t 2), none, false, false, []⟩,
  ⟨some 51, .mv (.t 1), none, false, false, []⟩,
  ⟨some 52, .call (.c (.fn 37 [] [])) [.t 50, .t 51], none, false, false, [50, 51]⟩,
  ⟨some 49, .mv (.t 52), none, false, false, [52]⟩,
  ⟨some 53, .ext 0 (.t 49), none, false, false, []⟩,
  ⟨some 54, .ext 1 (.t 49), none, false, false, [49]⟩,
  ⟨some 13, .alloc [.int .i64 0, .int .i64 0, .int .u64 0, .int .u64 0, .int .i64 0, .int .i64 0, .int .i64 0, .int .i64 0, .nils, .int .i64 0, .int .i64 0, .int .i64 0, .int .i64 0, .nils], none, false, false, []⟩,
  ⟨none, .st 14 (.t 13) (.t 53), none, false, false, [53]⟩,
  ⟨some 14, .mv (.t 54), none, false, false, [54]⟩])
 (.seq (.ops 8 false [⟨some 56, .fa 4 (.t 2), none, false, false, []⟩,
  ⟨some 57, .ld none [] (.t 56), none, false, false, [56]⟩,
  ⟨some 58, .mv (.t 1), none, false, false, []⟩,
  ⟨some 59, .call (.c (.fn 38 [] [])) [.t 57, .t 58], none, false, false, [57, 58]⟩,
  ⟨some 55, .mv (.t 59), none, false, false, [59]⟩,
  ⟨some 60, .ext 0 (.t 55), none, false, false, []⟩,
  ⟨some 61, .ext 1 (.t 55), none, false, false, [55]⟩,
  ⟨some 15, .alloc [.int .i64 0, .int .u64 0, .bool false], none, false, false, []⟩,
  ⟨none, .st 3 (.t 15) (.t 60), none, false, false, [60]⟩,
  ⟨some 16, .mv (.t 61), none, false, false, [61]⟩])
 (.seq (.ops 9 false [⟨some 63, .fa 5 (.t 2), none, false, false, []⟩,
  ⟨some 64, .ld none [] (.t 63), none, false, false, [63]⟩,
  ⟨some 65, .mv (.t 1), none, false, false, []⟩,
  ⟨some 66, .call (.c (.fn 38 [] [])) [.t 64, .t 65], none, false, false, [64, 65]⟩,
  ⟨some 62, .mv (.t 66), none, false, false, [66]⟩,
  ⟨some 67, .ext 0 (.t 62), none, false, false, []⟩,
  ⟨some 68, .ext 1 (.t 62), none, false, false, [62]⟩,
  ⟨some 17, .alloc [.int .i64 0, .int .u64 0, .bool false], none, false, false, []⟩,
  ⟨none, .st 3 (.t 17) (.t 67), none, false, false, [67]⟩,
  ⟨some 18, .mv (.t 68), none, false, false, [68]⟩])
 (.seq (.ops 10 false [⟨some 70, .ld (some 8) [] (.t 2), none, false, false, []⟩,
  ⟨some 71, .mv (.t 1), none, false, false, []⟩,
  ⟨some 72, .call (.c (.fn 39 [] [])) [.t 70, .t 71], none, false, false, [70, 71]⟩,
  ⟨some 69, .mv (.t 72), none, false, false, [72]⟩,
  ⟨some 73, .ext 0 (.t 69), none, false, false, []⟩,
  ⟨some 74, .ext 1 (.t 69), none, false, false, [69]⟩,
  ⟨some 19, .alloc [.int .i64 0, .int .i64 0, .int .i64 0, .int .i64 0, .int .i64 0, .int .i64 0, .nils], none, false, false, []⟩,
  ⟨none, .st 7 (.t 19) (.t 73), none, false, false, [73]⟩,
  ⟨some 20, .mv (.t 74), none, false, false, [74]⟩])
 (.seq (.ops 11 true [⟨some 75, .ld (some 14) [] (.t 5), none, false, false, [5]⟩,
  ⟨some 76, .ld (some 14) [] (.t 13), none, false, false, [13]⟩,
  ⟨some 77, .call (.c (.fn 40 [] [])) [.t 75, .t 76], none, false, false, [75, 76]⟩,
  ⟨some 78, .mv (.t 77), none, false, false, [77]⟩,
  ⟨some 79, .mv (.t 6), (some (78, true)), true, false, [6]⟩,
  ⟨some 80, .mv (.t 14), (some (78, true)), true, false, [14]⟩,
  ⟨some 81, .eqb false (.o 79) (.o 80), (some (78, true)), true, false, [79, 80]⟩,
  ⟨some 82, .pick (.t 78) (.t 81) (.c (.bool false)), none, false, false, [78, 81]⟩,
  ⟨some 83, .mv (.t 82), none, false, false, [82]⟩,
  ⟨some 84, .ld (some 3) [] (.t 7), (some (83, true)), true, false, [7]⟩,
  ⟨some 85, .ld (some 3) [] (.t 15), (some (83, true)), true, false, [15]⟩,
  ⟨some 86, .eqc false [false, false, true] (.o 84) (.o 85), (some (83, true)), true, false, [84, 85]⟩,
  ⟨some 87, .pick (.t 83) (.t 86) (.c (.bool false)), none, false, false, [83, 86]⟩,
  ⟨some 88, .mv (.t 87), none, false, false, [87]⟩,
  ⟨some 89, .mv (.t 8), (some (88, true)), true, false, [8]⟩,
  ⟨some 90, .mv (.t 16), (some (88, true)), true, false, [16]⟩,
  ⟨some 91, .eqb false (.o 89) (.o 90), (some (88, true)), true, false, [89, 90]⟩,
  ⟨some 92, .pick (.t 88) (.t 91) (.c (.bool false)), none, false, false, [88, 91]⟩,
  ⟨some 93, .mv (.t 92), none, false, false, [92]⟩,
  ⟨some 94, .ld (some 3) [] (.t 9), (some (93, true)), true, false, [9]⟩,
  ⟨some 95, .ld (some 3) [] (.t 17), (some (93, true)), true, false, [17]⟩,
  ⟨some 96, .eqc false [false, false, true] (.o 94) (.o 95), (some (93, true)), true, false, [94, 95]⟩,
  ⟨some 97, .pick (.t 93) (.t 96) (.c (.bool false)), none, false, false, [93, 96]⟩,
  ⟨some 98, .mv (.t 97), none, false, false, [97]⟩,
  ⟨some 99, .mv (.t 10), (some (98, true)), true, false, [10]⟩,
  ⟨some 100, .mv (.t 18), (some (98, true)), true, false, [18]⟩,
  ⟨some 101, .eqb false (.o 99) (.o 100), (some (98, true)), true, false, [99, 100]⟩,
  ⟨some 102, .pick (.t 98) (.t 101) (.c (.bool false)), none, false, false, [98, 101]⟩,
  ⟨some 103, .mv (.t 102), none, false, false, [102]⟩,
  ⟨some 104, .ld (some 7) [] (.t 11), (some (103, true)), true, false, [11]⟩,
  ⟨some 105, .ld (some 7) [] (.t 19), (some (103, true)), true, false, [19]⟩,
  ⟨some 106, .call (.c (.fn 41 [] [])) [.o 104, .o 105], (some (103, true)), true, false, [104, 105]⟩,
  ⟨some 107, .pick (.t 103) (.t 106) (.c (.bool false)), none, false, false, [103, 106]⟩,
  ⟨some 108, .mv (.t 107), none, false, false, [107]⟩,
  ⟨some 109, .mv (.t 12), (some (108, true)), true, false, [12]⟩,
  ⟨some 110, .mv (.t 20), (some (108, true)), true, false, [20]⟩,
  ⟨some 111, .eqb false (.o 109) (.o 110), (some (108, true)), true, false, [109, 110]⟩,
  ⟨some 112, .pick (.t 108) (.t 111) (.c (.bool false)), none, false, false, [108, 111]⟩,
  ⟨some 113, .mv (.t 112), none, false, false, [112]⟩,
  ⟨some 114, .ld (some 8) [] (.t 2), (some (113, true)), true, false, []⟩,
  ⟨some 115, .mv (.t 1), (some (113, true)), true, false, []⟩,
  ⟨some 116, .call (.c (.fn 42 [] [])) [.o 114, .o 115], (some (113, true)), true, false, [114, 115]⟩,
  ⟨some 117, .ld (some 8) [] (.t 2), (some (113, true)), true, false, [2]⟩,
  ⟨some 118, .mv (.t 1), (some (113, true)), true, false, [1]⟩,
  ⟨some 119, .call (.c (.fn 43 [] [])) [.o 117, .o 118], (some (113, true)), true, false, [117, 118]⟩,
  ⟨some 120, .bin .eql (.o 116) (.o 119), (some (113, true)), true, false, [116, 119]⟩,
  ⟨some 121, .pick (.t 113) (.t 120) (.c (.bool false)), none, false, false, [113, 120]⟩,
  ⟨some 122, .mv (.t 121), none, false, false, [121]⟩,
  ⟨some 123, .call (.c (.fn 26 [] [])) [], (some (122, true)), true, false, []⟩,
  ⟨some 124, .pick (.t 122) (.t 123) (.c (.bool false)), none, false, false, [122, 123]⟩,
  ⟨some 4, .mv (.t 124), none, false, false, [124]⟩])
 (.ret)))))))))))
def rs_l30_StateFinds : List IRes := [.t 4]
theorem ok_l30_StateFinds : fnOk Try.prog 7 ic_l30_StateFinds rs_l30_StateFinds 125 = true := by kernel_rfl

end Go.Proofs.Ytoapfffakfmioaa.Sx
