/- Functions of the seat in the small language. No conditions: a kit of our own. -/
import Derived.Test.YtaimhgmakgbfaaaProg
import Derived.Test.YtaimhgmakgbfaaaSx17
namespace Go.Proofs.Ytaimhgmakgbfaaa.Sx
open Go Go.RowKit
set_option linter.unusedVariables false

/-- slices.ContainsFunc(()tallyman/api.Spec,tallyman/api.Spec) -/
def ic_slices_ContainsFunc_api_Spec_api_Spec : ICode :=
 .seq (.ops 0 false [⟨some 4, .mv (.c (.bool false)), none, false, false, [4]⟩])
 (.seq (.ops 1 false [⟨some 5, .mv (.t 0), none, false, false, [0]⟩,
  ⟨some 6, .mv (.t 1), none, false, false, [1]⟩,
  ⟨some 7, .call (.c (.fn 156 [] [])) [.t 5, .t 6], none, false, false, [5, 6]⟩,
  ⟨some 8, .bin .geq (.t 7) (.c (.int .i64 0)), none, false, false, [7]⟩,
  ⟨some 4, .mv (.t 8), none, false, false, [8]⟩])
 (.ret))
def rs_slices_ContainsFunc_api_Spec_api_Spec : List IRes := [.t 4]
theorem ok_slices_ContainsFunc_api_Spec_api_Spec : fnOk Try.prog 96 ic_slices_ContainsFunc_api_Spec_api_Spec rs_slices_ContainsFunc_api_Spec_api_Spec 9 = true := by kernel_rfl

/-- slices.IndexFunc(()tallyman/api.Spec,tallyman/api.Spec) -/
def ic_slices_IndexFunc_api_Spec_api_Spec : ICode :=
 .seq (.ops 0 false [⟨some 4, .mv (.c (.int .i64 0)), none, false, false, [4]⟩])
 (.seq (.seq (.ops 1 false [⟨some 6, .mv (.t 0), none, false, false, []⟩,
  ⟨some 7, .len (.t 6), none, false, false, [6]⟩,
  ⟨some 8, .mv (.c (.int .i64 0)), none, false, false, []⟩])
 (.block 0 (.loop [0, 1, 7, 8] (.seq (.ops 2 false [⟨some 9, .bin .lss (.t 8) (.t 7), none, false, false, []⟩])
   (.seq (.cond (.t 9)
    (.skip)
    (.exit 0))
   (.seq (.block 1 (.seq (.ops 3 false [⟨some 10, .mv (.t 8), none, false, false, []⟩,
     ⟨some 5, .mv (.t 10), none, false, false, [10]⟩])
    (.seq (.ops 4 false [⟨some 11, .mv (.t 1), none, false, false, []⟩,
     ⟨some 12, .mv (.t 0), none, false, false, []⟩,
     ⟨some 13, .mv (.t 5), none, false, false, []⟩,
     ⟨some 14, .ia 9 [.int .i64 0, .int .i64 0, .int .u64 0, .int .u64 0, .int .i64 0, .int .i64 0, .int .i64 0, .int .i64 0, .view []] (.t 12) (.t 13), none, false, false, [12, 13]⟩,
     ⟨some 15, .ld (some 9) [.int .i64 0, .int .i64 0, .int .u64 0, .int .u64 0, .int .i64 0, .int .i64 0, .int .i64 0, .int .i64 0, .view []] (.t 14), none, false, false, [14]⟩,
     ⟨some 16, .call (.t 11) [.t 15], none, false, false, [11, 15]⟩])
    (.cond (.t 16)
     (.seq (.ops 5 false [⟨some 17, .mv (.t 5), none, false, false, [5]⟩,
      ⟨some 4, .mv (.t 17), none, false, false, [17]⟩])
     (.ret))
     (.skip)))))
   (.ops 6 false [⟨some 18, .bin .add (.t 8) (.c (.int .i64 1)), none, false, false, [8]⟩,
    ⟨some 8, .mv (.t 18), none, false, false, [18]⟩])))))))
 (.seq (.ops 7 false [⟨some 4, .mv (.c (.int .i64 (-1))), none, false, false, []⟩])
 (.ret)))
def rs_slices_IndexFunc_api_Spec_api_Spec : List IRes := [.t 4]
theorem ok_slices_IndexFunc_api_Spec_api_Spec : fnOk Try.prog 156 ic_slices_IndexFunc_api_Spec_api_Spec rs_slices_IndexFunc_api_Spec_api_Spec 19 = true := by kernel_rfl

/-- slices.ContainsFunc(()int,int) -/
def ic_slices_ContainsFunc_int_int : ICode :=
 .seq (.ops 0 false [⟨some 4, .mv (.c (.bool false)), none, false, false, [4]⟩])
 (.seq (.ops 1 false [⟨some 5, .mv (.t 0), none, false, false, [0]⟩,
  ⟨some 6, .mv (.t 1), none, false, false, [1]⟩,
  ⟨some 7, .call (.c (.fn 169 [] [])) [.t 5, .t 6], none, false, false, [5, 6]⟩,
  ⟨some 8, .bin .geq (.t 7) (.c (.int .i64 0)), none, false, false, [7]⟩,
  ⟨some 4, .mv (.t 8), none, false, false, [8]⟩])
 (.ret))
def rs_slices_ContainsFunc_int_int : List IRes := [.t 4]
theorem ok_slices_ContainsFunc_int_int : fnOk Try.prog 158 ic_slices_ContainsFunc_int_int rs_slices_ContainsFunc_int_int 9 = true := by kernel_rfl

/-- tallyman/batch.of -/
def ic_batch_of : ICode :=
 .seq (.ops 0 false [⟨some 4, .alloc [.nilm, .nilm, .nils], none, false, false, []⟩])
 (.seq (.ops 1 false [⟨some 10, .mkmap, none, false, false, []⟩,
  ⟨some 11, .mkmap, none, false, false, []⟩,
  ⟨some 12, .mv (.t 1), none, false, false, []⟩,
  ⟨some 13, .build [.nilm, .nilm, .nils] [(0, 1, .t 10), (1, 1, .t 11), (2, 1, .t 12)], none, false, false, [10, 11, 12]⟩,
  ⟨some 5, .alloc [.nilm, .nilm, .nils], none, false, false, []⟩,
  ⟨none, .st 3 (.t 5) (.t 13), none, false, false, [13]⟩])
 (.seq (.seq (.ops 2 false [⟨some 14, .mv (.t 0), none, false, false, []⟩,
  ⟨some 15, .len (.t 14), none, false, false, [14]⟩,
  ⟨some 16, .mv (.c (.int .i64 0)), none, false, false, []⟩])
 (.block 0 (.loop [0, 1, 4, 5, 15, 16] (.seq (.ops 3 false [⟨some 17, .bin .lss (.t 16) (.t 15), none, false, false, []⟩])
   (.seq (.cond (.t 17)
    (.skip)
    (.exit 0))
   (.seq (.block 1 (.seq (.ops 4 false [⟨some 18, .mv (.t 16), none, false, false, []⟩,
     ⟨some 6, .mv (.t 18), none, false, false, [18]⟩])
    (.seq (.ops 5 false [⟨some 19, .mv (.t 0), none, false, false, []⟩,
     ⟨some 20, .mv (.t 0), none, false, false, []⟩,
     ⟨some 21, .len (.t 20), none, false, false, [20]⟩,
     ⟨some 22, .bin .sub (.t 21) (.c (.int .i64 1)), none, false, false, [21]⟩,
     ⟨some 23, .mv (.t 6), none, false, false, [6]⟩,
     ⟨some 24, .bin .sub (.t 22) (.t 23), none, false, false, [22, 23]⟩,
     ⟨some 25, .ia 14 [.int .i64 0, .int .i64 0, .int .u64 0, .int .u64 0, .int .i64 0, .int .i64 0, .int .i64 0, .int .i64 0, .view [], .int .i64 0, .int .i64 0, .int .i64 0, .int .i64 0, .view []] (.t 19) (.t 24), none, false, false, [19, 24]⟩,
     ⟨some 26, .ld (some 14) [.int .i64 0, .int .i64 0, .int .u64 0, .int .u64 0, .int .i64 0, .int .i64 0, .int .i64 0, .int .i64 0, .view [], .int .i64 0, .int .i64 0, .int .i64 0, .int .i64 0, .view []] (.t 25), none, false, false, [25]⟩,
     ⟨some 7, .alloc [.int .i64 0, .int .i64 0, .int .u64 0, .int .u64 0, .int .i64 0, .int .i64 0, .int .i64 0, .int .i64 0, .nils, .int .i64 0, .int .i64 0, .int .i64 0, .int .i64 0, .nils], none, false, false, []⟩,
     ⟨none, .st 14 (.t 7) (.t 26), none, false, false, [26]⟩])
    (.ops 6 false [⟨some 27, .fa 0 (.t 5), none, false, false, []⟩,
     ⟨some 28, .ld none [] (.t 27), none, false, false, [27]⟩,
     ⟨some 29, .fa 0 (.t 7), none, false, false, []⟩,
     ⟨some 30, .fa 0 (.t 29), none, false, false, [29]⟩,
     ⟨some 31, .ld none [] (.t 30), none, false, false, [30]⟩,
     ⟨some 32, .fa 9 (.t 7), none, false, false, [7]⟩,
     ⟨some 33, .ld none [] (.t 32), none, false, false, [32]⟩,
     ⟨none, .mapup (.t 28) (.t 31) (.t 33), none, false, false, [28, 31, 33]⟩]))))
   (.ops 7 false [⟨some 34, .bin .add (.t 16) (.c (.int .i64 1)), none, false, false, [16]⟩,
    ⟨some 16, .mv (.t 34), none, false, false, [34]⟩])))))))
 (.seq (.seq (.ops 8 false [⟨some 35, .mv (.t 1), none, false, false, [1]⟩,
  ⟨some 36, .len (.t 35), none, false, false, []⟩,
  ⟨some 37, .mv (.c (.int .i64 0)), none, false, false, []⟩])
 (.block 2 (.loop [4, 5, 35, 36, 37] (.seq (.ops 9 false [⟨some 38, .bin .lss (.t 37) (.t 36), none, false, false, []⟩])
   (.seq (.cond (.t 38)
    (.skip)
    (.exit 2))
   (.seq (.block 3 (.seq (.ops 10 false [⟨some 39, .ia 9 [.int .i64 0, .int .i64 0, .int .u64 0, .int .u64 0, .int .i64 0, .int .i64 0, .int .i64 0, .int .i64 0, .view []] (.t 35) (.t 37), none, false, false, []⟩,
     ⟨some 40, .ld (some 9) [.int .i64 0, .int .i64 0, .int .u64 0, .int .u64 0, .int .i64 0, .int .i64 0, .int .i64 0, .int .i64 0, .view []] (.t 39), none, false, false, [39]⟩,
     ⟨some 9, .alloc [.int .i64 0, .int .i64 0, .int .u64 0, .int .u64 0, .int .i64 0, .int .i64 0, .int .i64 0, .int .i64 0, .nils], none, false, false, []⟩,
     ⟨none, .st 9 (.t 9) (.t 40), none, false, false, [40]⟩])
    (.ops 11 false [⟨some 41, .fa 1 (.t 5), none, false, false, []⟩,
     ⟨some 42, .ld none [] (.t 41), none, false, false, [41]⟩,
     ⟨some 43, .fa 0 (.t 9), none, false, false, [9]⟩,
     ⟨some 44, .ld none [] (.t 43), none, false, false, [43]⟩,
     ⟨some 45, .look (.int .i64 0) false (.t 42) (.t 44), none, false, false, []⟩,
     ⟨some 46, .bin .add (.t 45) (.c (.int .i64 1)), none, false, false, [45]⟩,
     ⟨none, .mapup (.t 42) (.t 44) (.t 46), none, false, false, [42, 44, 46]⟩])))
   (.ops 12 false [⟨some 47, .bin .add (.t 37) (.c (.int .i64 1)), none, false, false, [37]⟩,
    ⟨some 37, .mv (.t 47), none, false, false, [47]⟩])))))))
 (.seq (.ops 13 false [⟨some 48, .ld (some 3) [] (.t 5), none, false, false, [5]⟩,
  ⟨none, .st 3 (.t 4) (.t 48), none, false, false, [48]⟩])
 (.ret)))))
def rs_batch_of : List IRes := [.cell 4 (some 3)]
theorem ok_batch_of : fnOk Try.prog 94 ic_batch_of rs_batch_of 49 = true := by kernel_rfl

/-- tallyman/batch.Check -/
def ic_batch_Check : ICode :=
 .seq (.ops 0 false [⟨some 6, .mv (.c (.int .i64 0)), none, false, false, [6]⟩])
 (.back [0, 1, 2, 7] (.seq (.seq (.ops 1 false [⟨some 13, .mv (.t 2), none, false, false, []⟩,
   ⟨some 14, .len (.t 13), none, false, false, [13]⟩,
   ⟨some 15, .bin .eql (.t 14) (.c (.int .i64 0)), none, false, false, [14]⟩])
  (.cond (.t 15)
   (.seq (.ops 2 false [⟨some 6, .mv (.c (.int .i64 1)), none, false, false, []⟩])
   (.ret))
   (.skip)))
 (.seq (.ops 3 false [⟨some 7, .mv (.c (.int .i64 0)), none, false, false, []⟩])
 (.label 0))) 0
  (.seq (.seq (.ops 4 false [⟨some 16, .mv (.t 7), none, false, false, []⟩,
   ⟨some 17, .mv (.t 2), none, false, false, []⟩,
   ⟨some 18, .len (.t 17), none, false, false, [17]⟩,
   ⟨some 19, .bin .lss (.t 16) (.t 18), none, false, false, [16, 18]⟩])
  (.cond (.t 19)
   (.seq (.seq (.ops 5 false [⟨some 20, .mv (.t 2), none, false, false, []⟩,
    ⟨some 21, .mv (.t 7), none, false, false, []⟩,
    ⟨some 22, .ia 9 [.int .i64 0, .int .i64 0, .int .u64 0, .int .u64 0, .int .i64 0, .int .i64 0, .int .i64 0, .int .i64 0, .view []] (.t 20) (.t 21), none, false, false, [20, 21]⟩,
    ⟨some 23, .ld (some 9) [.int .i64 0, .int .i64 0, .int .u64 0, .int .u64 0, .int .i64 0, .int .i64 0, .int .i64 0, .int .i64 0, .view []] (.t 22), none, false, false, [22]⟩,
    ⟨some 24, .call (.c (.fn 93 [] [])) [.t 23], none, false, false, [23]⟩,
    ⟨some 8, .mv (.t 24), none, false, false, [24]⟩])
   (.seq (.ops 6 false [⟨some 25, .mv (.t 8), none, false, false, []⟩,
    ⟨some 26, .bin .neq (.t 25) (.c (.int .i64 0)), none, false, false, [25]⟩])
   (.cond (.t 26)
    (.seq (.ops 7 false [⟨some 27, .mv (.t 8), none, false, false, [8]⟩,
     ⟨some 6, .mv (.t 27), none, false, false, [27]⟩])
    (.ret))
    (.skip))))
   (.seq (.ops 8 false [⟨some 28, .mv (.t 7), none, false, false, [7]⟩,
    ⟨some 29, .bin .add (.t 28) (.c (.int .i64 1)), none, false, false, [28]⟩,
    ⟨some 7, .mv (.t 29), none, false, false, [29]⟩])
   (.goto 0)))
   (.skip)))
  (.seq (.ops 9 false [⟨some 30, .mv (.t 1), none, false, false, []⟩,
   ⟨some 31, .mv (.t 2), none, false, false, []⟩,
   ⟨some 32, .call (.c (.fn 94 [] [])) [.t 30, .t 31], none, false, false, [30, 31]⟩,
   ⟨some 9, .alloc [.nilm, .nilm, .nils], none, false, false, []⟩,
   ⟨none, .st 3 (.t 9) (.t 32), none, false, false, [32]⟩])
  (.seq (.ops 10 false [⟨some 33, .mkfn 95 [] [.t 9], none, false, false, []⟩,
   ⟨some 10, .mv (.t 33), none, false, false, [33]⟩])
  (.seq (.ops 11 false [⟨some 35, .mv (.t 2), none, false, false, []⟩,
   ⟨some 36, .call (.c (.fn 48 [] [])) [.t 35], none, false, false, [35]⟩,
   ⟨some 34, .mv (.t 36), none, false, false, [36]⟩,
   ⟨some 37, .ext 0 (.t 34), none, false, false, []⟩,
   ⟨some 38, .ext 1 (.t 34), none, false, false, [34]⟩,
   ⟨some 11, .mv (.t 37), none, false, false, [11, 37]⟩,
   ⟨some 12, .mv (.t 38), none, false, false, [38]⟩])
  (.seq (.block 0 (.seq (.ops 12 false [⟨some 40, .mv (.t 1), none, false, false, [1]⟩,
    ⟨some 41, .len (.t 40), none, false, false, [40]⟩,
    ⟨some 42, .mv (.t 2), none, false, false, []⟩,
    ⟨some 43, .len (.t 42), none, false, false, [42]⟩,
    ⟨some 44, .bin .add (.t 41) (.t 43), none, false, false, [41, 43]⟩,
    ⟨some 45, .mv (.t 0), none, false, false, [0]⟩,
    ⟨some 46, .bin .gtr (.t 44) (.t 45), none, false, false, [44, 45]⟩,
    ⟨some 39, .mv (.t 46), none, false, false, [46]⟩])
   (.cond (.t 39)
    (.seq (.ops 13 false [⟨some 6, .mv (.c (.int .i64 9)), none, false, false, []⟩])
    (.ret))
    (.seq (.ops 14 false [⟨some 48, .mv (.t 2), none, false, false, [2]⟩,
     ⟨some 49, .mv (.t 10), none, false, false, [10]⟩,
     ⟨some 50, .call (.c (.fn 96 [] [])) [.t 48, .t 49], none, false, false, [48, 49]⟩,
     ⟨some 47, .mv (.t 50), none, false, false, [50]⟩])
    (.cond (.t 47)
     (.seq (.ops 15 false [⟨some 6, .mv (.c (.int .i64 6)), none, false, false, []⟩])
     (.ret))
     (.seq (.ops 16 false [⟨some 52, .ld (some 3) [] (.t 9), none, false, false, []⟩,
      ⟨some 53, .ld (some 3) [] (.t 9), none, false, false, []⟩,
      ⟨some 54, .mkfn 98 [.t 53] [], none, false, false, [53]⟩,
      ⟨some 55, .call (.c (.fn 97 [] [])) [.t 52, .t 54], none, false, false, [52, 54]⟩,
      ⟨some 56, .not (.t 55), none, false, false, [55]⟩,
      ⟨some 51, .mv (.t 56), none, false, false, [56]⟩])
     (.cond (.t 51)
      (.seq (.ops 17 false [⟨some 6, .mv (.c (.int .i64 7)), none, false, false, []⟩])
      (.ret))
      (.seq (.ops 18 false [⟨some 58, .ld (some 3) [] (.t 9), none, false, false, []⟩,
       ⟨some 59, .ld (some 3) [] (.t 9), none, false, false, [9]⟩,
       ⟨some 60, .mkfn 99 [.t 59] [], none, false, false, [59]⟩,
       ⟨some 61, .call (.c (.fn 97 [] [])) [.t 58, .t 60], none, false, false, [58, 60]⟩,
       ⟨some 62, .not (.t 61), none, false, false, [61]⟩,
       ⟨some 57, .mv (.t 62), none, false, false, [62]⟩])
      (.cond (.t 57)
       (.seq (.ops 19 false [⟨some 6, .mv (.c (.int .i64 12)), none, false, false, []⟩])
       (.ret))
       (.seq (.ops 20 false [⟨some 64, .mv (.t 12), none, false, false, [12]⟩,
        ⟨some 65, .not (.t 64), none, false, false, [64]⟩,
        ⟨some 63, .mv (.t 65), none, false, false, [65]⟩])
       (.cond (.t 63)
        (.seq (.ops 21 false [⟨some 6, .mv (.c (.int .i64 8)), none, false, false, []⟩])
        (.ret))
        (.skip))))))))))))
  (.seq (.ops 22 false [⟨some 6, .mv (.c (.int .i64 0)), none, false, false, []⟩])
  (.ret))))))))
def rs_batch_Check : List IRes := [.t 6]
theorem ok_batch_Check : fnOk Try.prog 46 ic_batch_Check rs_batch_Check 66 = true := by kernel_rfl

/-- tallyman/batch.Check$1 -/
def ic_batch_Check_1 : ICode :=
 .seq (.ops 0 false [⟨some 2, .box (.t 0), none, false, false, [0]⟩,
  ⟨some 3, .mv (.c (.bool false)), none, false, false, [3]⟩])
 (.seq (.ops 1 false [⟨some 7, .fa 0 (.t 1), none, false, false, []⟩,
  ⟨some 8, .ld none [] (.t 7), none, false, false, [7]⟩,
  ⟨some 9, .fa 0 (.t 2), none, false, false, []⟩,
  ⟨some 10, .ld none [] (.t 9), none, false, false, [9]⟩,
  ⟨some 11, .look (.int .i64 0) true (.t 8) (.t 10), none, false, false, [8, 10]⟩,
  ⟨some 6, .mv (.t 11), none, false, false, [11]⟩,
  ⟨some 12, .ext 0 (.t 6), none, false, false, []⟩,
  ⟨some 13, .ext 1 (.t 6), none, false, false, [6]⟩,
  ⟨some 4, .mv (.t 12), none, false, false, [4, 12]⟩,
  ⟨some 5, .mv (.t 13), none, false, false, [13]⟩])
 (.seq (.ops 2 false [⟨some 14, .mv (.t 5), none, false, false, [5]⟩,
  ⟨some 15, .mv (.t 14), none, false, false, [14]⟩,
  ⟨some 16, .fa 1 (.t 1), (some (15, false)), true, false, [1]⟩,
  ⟨some 17, .ld none [] (.o 16), (some (15, false)), true, false, [16]⟩,
  ⟨some 18, .fa 0 (.t 2), (some (15, false)), true, false, [2]⟩,
  ⟨some 19, .ld none [] (.o 18), (some (15, false)), true, false, [18]⟩,
  ⟨some 20, .look (.int .i64 0) false (.o 17) (.o 19), (some (15, false)), true, false, [17, 19]⟩,
  ⟨some 21, .bin .gtr (.o 20) (.c (.int .i64 1)), (some (15, false)), true, false, [20]⟩,
  ⟨some 22, .pick (.t 15) (.c (.bool true)) (.t 21), none, false, false, [15, 21]⟩,
  ⟨some 3, .mv (.t 22), none, false, false, [22]⟩])
 (.ret)))
def rs_batch_Check_1 : List IRes := [.t 3]
theorem ok_batch_Check_1 : fnOk Try.prog 95 ic_batch_Check_1 rs_batch_Check_1 23 = true := by kernel_rfl

/-- (tallyman/batch.book).each -/
def ic_batch_book_each : ICode :=
 .seq (.ops 0 false [⟨some 2, .box (.t 0), none, false, false, [0]⟩,
  ⟨some 3, .box (.t 1), none, false, false, [1]⟩,
  ⟨some 4, .mv (.c (.bool false)), none, false, false, [4]⟩])
 (.seq (.ops 1 false [⟨some 5, .fa 2 (.t 2), none, false, false, [2]⟩,
  ⟨some 6, .ld none [] (.t 5), none, false, false, [5]⟩,
  ⟨some 7, .mkfn 157 [] [.t 3], none, false, false, [3]⟩,
  ⟨some 8, .call (.c (.fn 96 [] [])) [.t 6, .t 7], none, false, false, [6, 7]⟩,
  ⟨some 9, .not (.t 8), none, false, false, [8]⟩,
  ⟨some 4, .mv (.t 9), none, false, false, [9]⟩])
 (.ret))
def rs_batch_book_each : List IRes := [.t 4]
theorem ok_batch_book_each : fnOk Try.prog 97 ic_batch_book_each rs_batch_book_each 10 = true := by kernel_rfl

/-- (tallyman/batch.book).each$1 -/
def ic_batch_book_each_1 : ICode :=
 .seq (.ops 0 false [⟨some 2, .box (.t 0), none, false, false, [0]⟩,
  ⟨some 3, .mv (.c (.bool false)), none, false, false, [3]⟩])
 (.seq (.ops 1 false [⟨some 4, .fa 8 (.t 2), none, false, false, [2]⟩,
  ⟨some 5, .ld none [] (.t 4), none, false, false, [4]⟩,
  ⟨some 6, .mkfn 159 [] [.t 1], none, false, false, [1]⟩,
  ⟨some 7, .call (.c (.fn 158 [] [])) [.t 5, .t 6], none, false, false, [5, 6]⟩,
  ⟨some 3, .mv (.t 7), none, false, false, [7]⟩])
 (.ret))
def rs_batch_book_each_1 : List IRes := [.t 3]
theorem ok_batch_book_each_1 : fnOk Try.prog 157 ic_batch_book_each_1 rs_batch_book_each_1 8 = true := by kernel_rfl

/-- (tallyman/batch.book).each$1$1 -/
def ic_batch_book_each_1_1 : ICode :=
 .seq (.ops 0 false [⟨some 3, .mv (.c (.bool false)), none, false, false, [3]⟩])
 (.seq (.ops 1 false [⟨some 4, .ld none [] (.t 1), none, false, false, [1]⟩,
  ⟨some 5, .mv (.t 0), none, false, false, [0]⟩,
  ⟨some 6, .call (.t 4) [.t 5], none, false, false, [4, 5]⟩,
  ⟨some 7, .not (.t 6), none, false, false, [6]⟩,
  ⟨some 3, .mv (.t 7), none, false, false, [7]⟩])
 (.ret))
def rs_batch_book_each_1_1 : List IRes := [.t 3]
theorem ok_batch_book_each_1_1 : fnOk Try.prog 159 ic_batch_book_each_1_1 rs_batch_book_each_1_1 8 = true := by kernel_rfl

/-- (tallyman/batch.book).there -/
def ic_batch_book_there : ICode :=
 .seq (.ops 0 false [⟨some 2, .box (.t 0), none, false, false, [0]⟩,
  ⟨some 4, .mv (.c (.bool false)), none, false, false, [4]⟩])
 (.seq (.ops 1 false [⟨some 8, .fa 0 (.t 2), none, false, false, []⟩,
  ⟨some 9, .ld none [] (.t 8), none, false, false, [8]⟩,
  ⟨some 10, .mv (.t 1), none, false, false, []⟩,
  ⟨some 11, .look (.int .i64 0) true (.t 9) (.t 10), none, false, false, [9, 10]⟩,
  ⟨some 7, .mv (.t 11), none, false, false, [11]⟩,
  ⟨some 12, .ext 0 (.t 7), none, false, false, []⟩,
  ⟨some 13, .ext 1 (.t 7), none, false, false, [7]⟩,
  ⟨some 5, .mv (.t 12), none, false, false, [5, 12]⟩,
  ⟨some 6, .mv (.t 13), none, false, false, [13]⟩])
 (.seq (.ops 2 false [⟨some 14, .mv (.t 6), none, false, false, [6]⟩,
  ⟨some 15, .mv (.t 14), none, false, false, [14]⟩,
  ⟨some 16, .fa 1 (.t 2), (some (15, false)), true, false, [2]⟩,
  ⟨some 17, .ld none [] (.o 16), (some (15, false)), true, false, [16]⟩,
  ⟨some 18, .mv (.t 1), (some (15, false)), true, false, [1]⟩,
  ⟨some 19, .look (.int .i64 0) false (.o 17) (.o 18), (some (15, false)), true, false, [17, 18]⟩,
  ⟨some 20, .bin .gtr (.o 19) (.c (.int .i64 0)), (some (15, false)), true, false, [19]⟩,
  ⟨some 21, .pick (.t 15) (.c (.bool true)) (.t 20), none, false, false, [15, 20]⟩,
  ⟨some 4, .mv (.t 21), none, false, false, [21]⟩])
 (.ret)))
def rs_batch_book_there : List IRes := [.t 4]
theorem ok_batch_book_there : fnOk Try.prog 98 ic_batch_book_there rs_batch_book_there 22 = true := by kernel_rfl

/-- (tallyman/batch.book).sound -/
def ic_batch_book_sound : ICode :=
 .seq (.ops 0 false [⟨some 2, .box (.t 0), none, false, false, [0]⟩,
  ⟨some 4, .mv (.c (.bool false)), none, false, false, [4]⟩])
 (.seq (.ops 1 false [⟨some 6, .fa 0 (.t 2), none, false, false, [2]⟩,
  ⟨some 7, .ld none [] (.t 6), none, false, false, [6]⟩,
  ⟨some 8, .mv (.t 1), none, false, false, [1]⟩,
  ⟨some 9, .look (.int .i64 0) false (.t 7) (.t 8), none, false, false, [7, 8]⟩,
  ⟨some 5, .mv (.t 9), none, false, false, [9]⟩])
 (.seq (.ops 2 false [⟨some 10, .mv (.t 5), none, false, false, []⟩,
  ⟨some 11, .bin .neq (.t 10) (.c (.int .i64 5)), none, false, false, [10]⟩,
  ⟨some 12, .mv (.t 11), none, false, false, [11]⟩,
  ⟨some 13, .mv (.t 5), (some (12, true)), true, false, [5]⟩,
  ⟨some 14, .bin .neq (.o 13) (.c (.int .i64 6)), (some (12, true)), true, false, [13]⟩,
  ⟨some 15, .pick (.t 12) (.t 14) (.c (.bool false)), none, false, false, [12, 14]⟩,
  ⟨some 4, .mv (.t 15), none, false, false, [15]⟩])
 (.ret)))
def rs_batch_book_sound : List IRes := [.t 4]
theorem ok_batch_book_sound : fnOk Try.prog 99 ic_batch_book_sound rs_batch_book_sound 16 = true := by kernel_rfl

/-- tallyman/batch.Order -/
def ic_batch_Order : ICode :=
 .seq (.ops 0 false [⟨some 2, .mv (.c (.nils)), none, false, false, [2]⟩,
  ⟨some 3, .mv (.c (.bool false)), none, false, false, [3]⟩])
 (.seq (.ops 1 false [⟨some 4, .mv (.c (.nils)), none, false, false, []⟩])
 (.seq (.ops 2 false [⟨some 5, .mv (.c (.nils)), none, false, false, []⟩])
 (.seq (.seq (.ops 3 false [⟨some 10, .mv (.t 0), none, false, false, [0]⟩,
  ⟨some 11, .len (.t 10), none, false, false, []⟩,
  ⟨some 12, .mv (.c (.int .i64 0)), none, false, false, []⟩])
 (.block 0 (.loop [4, 5, 10, 11, 12] (.seq (.ops 4 false [⟨some 13, .bin .lss (.t 12) (.t 11), none, false, false, []⟩])
   (.seq (.cond (.t 13)
    (.skip)
    (.exit 0))
   (.seq (.block 1 (.seq (.ops 5 false [⟨some 14, .ia 9 [.int .i64 0, .int .i64 0, .int .u64 0, .int .u64 0, .int .i64 0, .int .i64 0, .int .i64 0, .int .i64 0, .view []] (.t 10) (.t 12), none, false, false, []⟩,
     ⟨some 15, .ld (some 9) [.int .i64 0, .int .i64 0, .int .u64 0, .int .u64 0, .int .i64 0, .int .i64 0, .int .i64 0, .int .i64 0, .view []] (.t 14), none, false, false, [14]⟩,
     ⟨some 7, .alloc [.int .i64 0, .int .i64 0, .int .u64 0, .int .u64 0, .int .i64 0, .int .i64 0, .int .i64 0, .int .i64 0, .nils], none, false, false, []⟩,
     ⟨none, .st 9 (.t 7) (.t 15), none, false, false, [15]⟩])
    (.seq (.ops 6 false [⟨some 16, .mv (.t 4), none, false, false, [4]⟩,
     ⟨some 17, .fa 0 (.t 7), none, false, false, []⟩,
     ⟨some 18, .ld none [] (.t 17), none, false, false, [17]⟩,
     ⟨some 19, .rowView 1 [.t 18], none, false, false, [18]⟩,
     ⟨some 20, .app 1 (.t 16) (.t 19), none, false, false, [16, 19]⟩,
     ⟨some 4, .mv (.t 20), none, false, false, [20]⟩])
    (.seq (.ops 7 false [⟨some 21, .fa 8 (.t 7), none, false, false, []⟩,
     ⟨some 22, .ld none [] (.t 21), none, false, false, [21]⟩,
     ⟨some 23, .len (.t 22), none, false, false, []⟩,
     ⟨some 24, .mv (.c (.int .i64 0)), none, false, false, []⟩])
    (.block 2 (.loop [4, 5, 7, 10, 11, 12, 22, 23, 24] (.seq (.ops 8 false [⟨some 25, .bin .lss (.t 24) (.t 23), none, false, false, []⟩])
      (.seq (.cond (.t 25)
       (.skip)
       (.exit 2))
      (.seq (.block 3 (.seq (.ops 9 false [⟨some 26, .ia 1 [.int .i64 0] (.t 22) (.t 24), none, false, false, []⟩,
        ⟨some 27, .ld none [.int .i64 0] (.t 26), none, false, false, [26]⟩,
        ⟨some 9, .mv (.t 27), none, false, false, [27]⟩])
       (.ops 10 false [⟨some 28, .mv (.t 5), none, false, false, [5]⟩,
        ⟨some 29, .mv (.t 9), none, false, false, [9]⟩,
        ⟨some 30, .fa 0 (.t 7), none, false, false, []⟩,
        ⟨some 31, .ld none [] (.t 30), none, false, false, [30]⟩,
        ⟨some 32, .build [.int .i64 0, .int .i64 0] [(0, 1, .t 29), (1, 1, .t 31)], none, false, false, [29, 31]⟩,
        ⟨some 33, .rowView 2 [.t 32], none, false, false, [32]⟩,
        ⟨some 34, .app 2 (.t 28) (.t 33), none, false, false, [28, 33]⟩,
        ⟨some 5, .mv (.t 34), none, false, false, [34]⟩])))
      (.ops 11 false [⟨some 35, .bin .add (.t 24) (.c (.int .i64 1)), none, false, false, [24]⟩,
       ⟨some 24, .mv (.t 35), none, false, false, [35]⟩]))))))))))
   (.ops 12 false [⟨some 36, .bin .add (.t 12) (.c (.int .i64 1)), none, false, false, [12]⟩,
    ⟨some 12, .mv (.t 36), none, false, false, [36]⟩])))))))
 (.seq (.ops 13 false [⟨some 37, .mv (.t 4), none, false, false, [4]⟩,
  ⟨some 38, .mv (.t 5), none, false, false, [5]⟩,
  ⟨some 39, .call (.c (.fn 20 [] [])) [.t 37, .t 38], none, false, false, [37, 38]⟩,
  ⟨some 40, .ext 0 (.t 39), none, false, false, []⟩,
  ⟨some 41, .ext 1 (.t 39), none, false, false, [39]⟩,
  ⟨some 2, .mv (.t 40), none, false, false, [40]⟩,
  ⟨some 3, .mv (.t 41), none, false, false, [41]⟩])
 (.ret)))))
def rs_batch_Order : List IRes := [.t 2, .t 3]
theorem ok_batch_Order : fnOk Try.prog 48 ic_batch_Order rs_batch_Order 42 = true := by kernel_rfl

/-- tallyman/batch.Free -/
def ic_batch_Free : ICode :=
 .seq (.ops 0 false [⟨some 4, .mv (.c (.nils)), none, false, false, [4]⟩])
 (.seq (.ops 1 false [⟨some 9, .mv (.t 0), none, false, false, [0]⟩,
  ⟨some 10, .call (.c (.fn 94 [] [])) [.t 9, .c (.nils)], none, false, false, [9]⟩,
  ⟨some 5, .alloc [.nilm, .nilm, .nils], none, false, false, []⟩,
  ⟨none, .st 3 (.t 5) (.t 10), none, false, false, [10]⟩])
 (.seq (.ops 2 false [⟨some 6, .mv (.c (.nils)), none, false, false, []⟩])
 (.seq (.seq (.ops 3 false [⟨some 11, .mv (.t 1), none, false, false, [1]⟩,
  ⟨some 12, .len (.t 11), none, false, false, []⟩,
  ⟨some 13, .mv (.c (.int .i64 0)), none, false, false, []⟩])
 (.block 0 (.loop [5, 6, 11, 12, 13] (.seq (.ops 4 false [⟨some 14, .bin .lss (.t 13) (.t 12), none, false, false, []⟩])
   (.seq (.cond (.t 14)
    (.skip)
    (.exit 0))
   (.seq (.block 1 (.seq (.ops 5 false [⟨some 15, .ia 9 [.int .i64 0, .int .i64 0, .int .u64 0, .int .u64 0, .int .i64 0, .int .i64 0, .int .i64 0, .int .i64 0, .view []] (.t 11) (.t 13), none, false, false, []⟩,
     ⟨some 16, .ld (some 9) [.int .i64 0, .int .i64 0, .int .u64 0, .int .u64 0, .int .i64 0, .int .i64 0, .int .i64 0, .int .i64 0, .view []] (.t 15), none, false, false, [15]⟩,
     ⟨some 8, .alloc [.int .i64 0, .int .i64 0, .int .u64 0, .int .u64 0, .int .i64 0, .int .i64 0, .int .i64 0, .int .i64 0, .nils], none, false, false, []⟩,
     ⟨none, .st 9 (.t 8) (.t 16), none, false, false, [16]⟩])
    (.seq (.ops 6 false [⟨some 17, .fa 8 (.t 8), none, false, false, []⟩,
     ⟨some 18, .ld none [] (.t 17), none, false, false, [17]⟩,
     ⟨some 19, .mkfn 160 [] [.t 5], none, false, false, []⟩,
     ⟨some 20, .call (.c (.fn 158 [] [])) [.t 18, .t 19], none, false, false, [18, 19]⟩,
     ⟨some 21, .not (.t 20), none, false, false, [20]⟩])
    (.cond (.t 21)
     (.ops 7 false [⟨some 22, .mv (.t 6), none, false, false, [6]⟩,
      ⟨some 23, .fa 0 (.t 8), none, false, false, [8]⟩,
      ⟨some 24, .ld none [] (.t 23), none, false, false, [23]⟩,
      ⟨some 25, .rowView 1 [.t 24], none, false, false, [24]⟩,
      ⟨some 26, .app 1 (.t 22) (.t 25), none, false, false, [22, 25]⟩,
      ⟨some 6, .mv (.t 26), none, false, false, [26]⟩])
     (.skip)))))
   (.ops 8 false [⟨some 27, .bin .add (.t 13) (.c (.int .i64 1)), none, false, false, [13]⟩,
    ⟨some 13, .mv (.t 27), none, false, false, [27]⟩])))))))
 (.seq (.ops 9 false [⟨some 28, .mv (.t 6), none, false, false, [6]⟩,
  ⟨some 4, .mv (.t 28), none, false, false, [28]⟩])
 (.ret)))))
def rs_batch_Free : List IRes := [.t 4]
theorem ok_batch_Free : fnOk Try.prog 100 ic_batch_Free rs_batch_Free 29 = true := by kernel_rfl

/-- tallyman/batch.Free$1 -/
def ic_batch_Free_1 : ICode :=
 .seq (.ops 0 false [⟨some 3, .mv (.c (.bool false)), none, false, false, [3]⟩])
 (.seq (.ops 1 false [⟨some 4, .fa 0 (.t 1), none, false, false, [1]⟩,
  ⟨some 5, .ld none [] (.t 4), none, false, false, [4]⟩,
  ⟨some 6, .mv (.t 0), none, false, false, [0]⟩,
  ⟨some 7, .look (.int .i64 0) false (.t 5) (.t 6), none, false, false, [5, 6]⟩,
  ⟨some 8, .bin .neq (.t 7) (.c (.int .i64 4)), none, false, false, [7]⟩,
  ⟨some 3, .mv (.t 8), none, false, false, [8]⟩])
 (.ret))
def rs_batch_Free_1 : List IRes := [.t 3]
theorem ok_batch_Free_1 : fnOk Try.prog 160 ic_batch_Free_1 rs_batch_Free_1 9 = true := by kernel_rfl

/-- tallyman/tallymanlaw23.alive -/
def ic_l23_alive : ICode :=
 .seq (.ops 0 false [⟨some 0, .mv (.c (.bool false)), none, false, false, [0]⟩])
 (.seq (.ops 1 false [⟨some 6, .build [.int .i64 0, .int .i64 0, .int .u64 0, .int .u64 0, .int .i64 0, .int .i64 0, .int .i64 0, .int .i64 0, .nils] [(0, 1, .c (.int .i64 1))], none, false, false, []⟩,
  ⟨some 7, .rowView 1 [.c (.int .i64 1)], none, false, false, []⟩,
  ⟨some 8, .build [.int .i64 0, .int .i64 0, .int .u64 0, .int .u64 0, .int .i64 0, .int .i64 0, .int .i64 0, .int .i64 0, .nils] [(0, 1, .c (.int .i64 2)), (8, 1, .t 7)], none, false, false, [7]⟩,
  ⟨some 1, .alloc [.int .i64 0, .int .i64 0, .int .u64 0, .int .u64 0, .int .i64 0, .int .i64 0, .int .i64 0, .int .i64 0, .nils], none, false, false, []⟩,
  ⟨some 2, .alloc [.int .i64 0, .int .i64 0, .int .u64 0, .int .u64 0, .int .i64 0, .int .i64 0, .int .i64 0, .int .i64 0, .nils], none, false, false, []⟩,
  ⟨none, .st 9 (.t 1) (.t 6), none, false, false, [6]⟩,
  ⟨none, .st 9 (.t 2) (.t 8), none, false, false, [8]⟩])
 (.seq (.ops 2 false [⟨some 9, .rowView 1 [.c (.int .i64 2)], none, false, false, []⟩,
  ⟨some 10, .build [.int .i64 0, .int .i64 0, .int .u64 0, .int .u64 0, .int .i64 0, .int .i64 0, .int .i64 0, .int .i64 0, .nils] [(0, 1, .c (.int .i64 1)), (8, 1, .t 9)], none, false, false, [9]⟩,
  ⟨some 3, .alloc [.int .i64 0, .int .i64 0, .int .u64 0, .int .u64 0, .int .i64 0, .int .i64 0, .int .i64 0, .int .i64 0, .nils], none, false, false, []⟩,
  ⟨none, .st 9 (.t 3) (.t 10), none, false, false, [10]⟩])
 (.seq (.ops 3 false [⟨some 12, .ld (some 9) [] (.t 2), none, false, false, []⟩,
  ⟨some 13, .ld (some 9) [] (.t 1), none, false, false, []⟩,
  ⟨some 14, .rowView 9 [.t 12, .t 13], none, false, false, [12, 13]⟩,
  ⟨some 15, .call (.c (.fn 48 [] [])) [.t 14], none, false, false, [14]⟩,
  ⟨some 11, .mv (.t 15), none, false, false, [15]⟩,
  ⟨some 16, .ext 0 (.t 11), none, false, false, []⟩,
  ⟨some 17, .ext 1 (.t 11), none, false, false, [11]⟩,
  ⟨some 4, .mv (.t 16), none, false, false, [16]⟩,
  ⟨some 5, .mv (.t 17), none, false, false, [17]⟩])
 (.seq (.ops 4 false [⟨some 18, .ld (some 9) [] (.t 1), none, false, false, []⟩,
  ⟨some 19, .ld (some 9) [] (.t 2), none, false, false, []⟩,
  ⟨some 20, .rowView 9 [.t 18, .t 19], none, false, false, [18, 19]⟩,
  ⟨some 21, .call (.c (.fn 46 [] [])) [.c (.int .i64 2), .c (.nils), .t 20], none, false, false, [20]⟩,
  ⟨some 22, .bin .eql (.t 21) (.c (.int .i64 0)), none, false, false, [21]⟩,
  ⟨some 23, .mv (.t 22), none, false, false, [22]⟩,
  ⟨some 24, .ld (some 9) [] (.t 1), (some (23, true)), true, false, []⟩,
  ⟨some 25, .ld (some 9) [] (.t 2), (some (23, true)), true, false, []⟩,
  ⟨some 26, .rowView 9 [.o 24, .o 25], (some (23, true)), true, false, [24, 25]⟩,
  ⟨some 27, .call (.c (.fn 46 [] [])) [.c (.int .i64 1), .c (.nils), .o 26], (some (23, true)), true, false, [26]⟩,
  ⟨some 28, .bin .eql (.o 27) (.c (.int .i64 9)), (some (23, true)), true, false, [27]⟩,
  ⟨some 29, .pick (.t 23) (.t 28) (.c (.bool false)), none, false, false, [23, 28]⟩,
  ⟨some 30, .mv (.t 29), none, false, false, [29]⟩,
  ⟨some 31, .ld (some 9) [] (.t 3), (some (30, true)), true, false, [3]⟩,
  ⟨some 32, .ld (some 9) [] (.t 2), (some (30, true)), true, false, []⟩,
  ⟨some 33, .rowView 9 [.o 31, .o 32], (some (30, true)), true, false, [31, 32]⟩,
  ⟨some 34, .call (.c (.fn 46 [] [])) [.c (.int .i64 2), .c (.nils), .o 33], (some (30, true)), true, false, [33]⟩,
  ⟨some 35, .bin .eql (.o 34) (.c (.int .i64 8)), (some (30, true)), true, false, [34]⟩,
  ⟨some 36, .pick (.t 30) (.t 35) (.c (.bool false)), none, false, false, [30, 35]⟩,
  ⟨some 37, .mv (.t 36), none, false, false, [36]⟩,
  ⟨some 38, .mv (.t 5), (some (37, true)), true, false, [5]⟩,
  ⟨some 39, .pick (.t 37) (.t 38) (.c (.bool false)), none, false, false, [37, 38]⟩,
  ⟨some 40, .mv (.t 39), none, false, false, [39]⟩,
  ⟨some 41, .mv (.t 4), (some (40, true)), true, false, [4]⟩,
  ⟨some 42, .rowView 1 [.c (.int .i64 1), .c (.int .i64 2)], (some (40, true)), true, false, []⟩,
  ⟨some 43, .call (.c (.fn 22 [] [])) [.o 41, .o 42], (some (40, true)), true, false, [41, 42]⟩,
  ⟨some 44, .pick (.t 40) (.t 43) (.c (.bool false)), none, false, false, [40, 43]⟩,
  ⟨some 45, .mv (.t 44), none, false, false, [44]⟩,
  ⟨some 46, .ld (some 9) [] (.t 2), (some (45, true)), true, false, [2]⟩,
  ⟨some 47, .ld (some 9) [] (.t 1), (some (45, true)), true, false, [1]⟩,
  ⟨some 48, .rowView 9 [.o 46, .o 47], (some (45, true)), true, false, [46, 47]⟩,
  ⟨some 49, .call (.c (.fn 100 [] [])) [.c (.nils), .o 48], (some (45, true)), true, false, [48]⟩,
  ⟨some 50, .rowView 1 [.c (.int .i64 1)], (some (45, true)), true, false, []⟩,
  ⟨some 51, .call (.c (.fn 22 [] [])) [.o 49, .o 50], (some (45, true)), true, false, [49, 50]⟩,
  ⟨some 52, .pick (.t 45) (.t 51) (.c (.bool false)), none, false, false, [45, 51]⟩,
  ⟨some 0, .mv (.t 52), none, false, false, [52]⟩])
 (.ret)))))
def rs_l23_alive : List IRes := [.t 0]
theorem ok_l23_alive : fnOk Try.prog 47 ic_l23_alive rs_l23_alive 53 = true := by kernel_rfl

/-- tallyman/tallymanlaw23.BatchFull -/
def ic_l23_BatchFull : ICode :=
 .seq (.ops 0 false [⟨some 6, .mv (.c (.bool false)), none, false, false, [6]⟩])
 (.seq (.seq (.ops 1 false [⟨some 17, .mv (.t 1), none, false, false, []⟩,
  ⟨some 18, .call (.c (.fn 44 [] [])) [.t 17, .c (.int .i64 70)], none, false, false, [17]⟩,
  ⟨some 19, .not (.t 18), none, false, false, [18]⟩,
  ⟨some 20, .mv (.t 19), none, false, false, [19]⟩,
  ⟨some 21, .mv (.t 2), (some (20, false)), true, false, []⟩,
  ⟨some 22, .call (.c (.fn 45 [] [])) [.o 21, .c (.int .i64 30)], (some (20, false)), true, false, [21]⟩,
  ⟨some 23, .not (.o 22), (some (20, false)), true, false, [22]⟩,
  ⟨some 24, .pick (.t 20) (.c (.bool true)) (.t 23), none, false, false, [20, 23]⟩,
  ⟨some 25, .mv (.t 24), none, false, false, [24]⟩,
  ⟨some 26, .mv (.t 0), (some (25, false)), true, false, []⟩,
  ⟨some 27, .mv (.t 1), (some (25, false)), true, false, []⟩,
  ⟨some 28, .mv (.t 2), (some (25, false)), true, false, []⟩,
  ⟨some 29, .call (.c (.fn 46 [] [])) [.o 26, .o 27, .o 28], (some (25, false)), true, false, [26, 27, 28]⟩,
  ⟨some 30, .bin .neq (.o 29) (.c (.int .i64 0)), (some (25, false)), true, false, [29]⟩,
  ⟨some 31, .pick (.t 25) (.c (.bool true)) (.t 30), none, false, false, [25, 30]⟩])
 (.cond (.t 31)
  (.seq (.ops 2 false [⟨some 32, .call (.c (.fn 47 [] [])) [], none, false, false, []⟩,
   ⟨some 6, .mv (.t 32), none, false, false, [32]⟩])
  (.ret))
  (.skip)))
 (.seq (.ops 3 false [⟨some 33, .mkmap, none, false, false, []⟩,
  ⟨some 7, .mv (.t 33), none, false, false, [33]⟩])
 (.seq (.seq (.ops 4 false [⟨some 34, .mv (.t 1), none, false, false, []⟩,
  ⟨some 35, .len (.t 34), none, false, false, []⟩,
  ⟨some 36, .mv (.c (.int .i64 0)), none, false, false, []⟩])
 (.block 0 (.loop [0, 1, 2, 7, 34, 35, 36] (.seq (.ops 5 false [⟨some 37, .bin .lss (.t 36) (.t 35), none, false, false, []⟩])
   (.seq (.cond (.t 37)
    (.skip)
    (.exit 0))
   (.seq (.block 1 (.seq (.ops 6 false [⟨some 38, .ia 14 [.int .i64 0, .int .i64 0, .int .u64 0, .int .u64 0, .int .i64 0, .int .i64 0, .int .i64 0, .int .i64 0, .view [], .int .i64 0, .int .i64 0, .int .i64 0, .int .i64 0, .view []] (.t 34) (.t 36), none, false, false, []⟩,
     ⟨some 39, .ld (some 14) [.int .i64 0, .int .i64 0, .int .u64 0, .int .u64 0, .int .i64 0, .int .i64 0, .int .i64 0, .int .i64 0, .view [], .int .i64 0, .int .i64 0, .int .i64 0, .int .i64 0, .view []] (.t 38), none, false, false, [38]⟩,
     ⟨some 9, .alloc [.int .i64 0, .int .i64 0, .int .u64 0, .int .u64 0, .int .i64 0, .int .i64 0, .int .i64 0, .int .i64 0, .nils, .int .i64 0, .int .i64 0, .int .i64 0, .int .i64 0, .nils], none, false, false, []⟩,
     ⟨none, .st 14 (.t 9) (.t 39), none, false, false, [39]⟩])
    (.ops 7 false [⟨some 40, .mv (.t 7), none, false, false, []⟩,
     ⟨some 41, .fa 0 (.t 9), none, false, false, [9]⟩,
     ⟨some 42, .fa 0 (.t 41), none, false, false, [41]⟩,
     ⟨some 43, .ld none [] (.t 42), none, false, false, [42]⟩,
     ⟨some 44, .look (.int .i64 0) false (.t 40) (.t 43), none, false, false, []⟩,
     ⟨some 45, .bin .add (.t 44) (.c (.int .i64 1)), none, false, false, [44]⟩,
     ⟨none, .mapup (.t 40) (.t 43) (.t 45), none, false, false, [40, 43, 45]⟩])))
   (.ops 8 false [⟨some 46, .bin .add (.t 36) (.c (.int .i64 1)), none, false, false, [36]⟩,
    ⟨some 36, .mv (.t 46), none, false, false, [46]⟩])))))))
 (.seq (.ops 9 false [⟨some 47, .mv (.t 7), none, false, false, []⟩,
  ⟨some 48, .lenm (.t 47), none, false, false, [47]⟩,
  ⟨some 10, .mv (.t 48), none, false, false, [48]⟩])
 (.seq (.seq (.ops 10 false [⟨some 49, .mv (.t 2), none, false, false, []⟩,
  ⟨some 50, .len (.t 49), none, false, false, []⟩,
  ⟨some 51, .mv (.c (.int .i64 0)), none, false, false, []⟩])
 (.block 2 (.loop [0, 1, 2, 7, 10, 49, 50, 51] (.seq (.ops 11 false [⟨some 52, .bin .lss (.t 51) (.t 50), none, false, false, []⟩])
   (.seq (.cond (.t 52)
    (.skip)
    (.exit 2))
   (.seq (.block 3 (.seq (.ops 12 false [⟨some 53, .ia 9 [.int .i64 0, .int .i64 0, .int .u64 0, .int .u64 0, .int .i64 0, .int .i64 0, .int .i64 0, .int .i64 0, .view []] (.t 49) (.t 51), none, false, false, []⟩,
     ⟨some 54, .ld (some 9) [.int .i64 0, .int .i64 0, .int .u64 0, .int .u64 0, .int .i64 0, .int .i64 0, .int .i64 0, .int .i64 0, .view []] (.t 53), none, false, false, [53]⟩,
     ⟨some 12, .alloc [.int .i64 0, .int .i64 0, .int .u64 0, .int .u64 0, .int .i64 0, .int .i64 0, .int .i64 0, .int .i64 0, .nils], none, false, false, []⟩,
     ⟨none, .st 9 (.t 12) (.t 54), none, false, false, [54]⟩])
    (.seq (.ops 13 false [⟨some 55, .mv (.t 7), none, false, false, []⟩,
     ⟨some 56, .fa 0 (.t 12), none, false, false, []⟩,
     ⟨some 57, .ld none [] (.t 56), none, false, false, [56]⟩,
     ⟨some 58, .look (.int .i64 0) false (.t 55) (.t 57), none, false, false, []⟩,
     ⟨some 59, .bin .add (.t 58) (.c (.int .i64 1)), none, false, false, [58]⟩,
     ⟨none, .mapup (.t 55) (.t 57) (.t 59), none, false, false, [55, 57, 59]⟩])
    (.seq (.ops 14 false [⟨some 60, .mv (.t 7), none, false, false, []⟩,
     ⟨some 61, .fa 0 (.t 12), none, false, false, [12]⟩,
     ⟨some 62, .ld none [] (.t 61), none, false, false, [61]⟩,
     ⟨some 63, .look (.int .i64 0) false (.t 60) (.t 62), none, false, false, [60, 62]⟩,
     ⟨some 64, .bin .neq (.t 63) (.c (.int .i64 1)), none, false, false, [63]⟩])
    (.cond (.t 64)
     (.seq (.ops 15 false [⟨some 6, .mv (.c (.bool false)), none, false, false, []⟩])
     (.ret))
     (.skip))))))
   (.ops 16 false [⟨some 65, .bin .add (.t 51) (.c (.int .i64 1)), none, false, false, [51]⟩,
    ⟨some 51, .mv (.t 65), none, false, false, [65]⟩])))))))
 (.seq (.seq (.ops 17 false [⟨some 66, .mv (.t 2), none, false, false, []⟩,
  ⟨some 67, .len (.t 66), none, false, false, []⟩,
  ⟨some 68, .mv (.c (.int .i64 0)), none, false, false, []⟩])
 (.block 4 (.loop [0, 1, 2, 7, 10, 66, 67, 68] (.seq (.ops 18 false [⟨some 69, .bin .lss (.t 68) (.t 67), none, false, false, []⟩])
   (.seq (.cond (.t 69)
    (.skip)
    (.exit 4))
   (.seq (.block 5 (.seq (.ops 19 false [⟨some 70, .ia 9 [.int .i64 0, .int .i64 0, .int .u64 0, .int .u64 0, .int .i64 0, .int .i64 0, .int .i64 0, .int .i64 0, .view []] (.t 66) (.t 68), none, false, false, []⟩,
     ⟨some 71, .ld (some 9) [.int .i64 0, .int .i64 0, .int .u64 0, .int .u64 0, .int .i64 0, .int .i64 0, .int .i64 0, .int .i64 0, .view []] (.t 70), none, false, false, [70]⟩,
     ⟨some 14, .alloc [.int .i64 0, .int .i64 0, .int .u64 0, .int .u64 0, .int .i64 0, .int .i64 0, .int .i64 0, .int .i64 0, .nils], none, false, false, []⟩,
     ⟨none, .st 9 (.t 14) (.t 71), none, false, false, [71]⟩])
    (.seq (.ops 20 false [⟨some 72, .fa 8 (.t 14), none, false, false, [14]⟩,
     ⟨some 73, .ld none [] (.t 72), none, false, false, [72]⟩,
     ⟨some 74, .len (.t 73), none, false, false, []⟩,
     ⟨some 75, .mv (.c (.int .i64 0)), none, false, false, []⟩])
    (.block 6 (.loop [0, 1, 2, 7, 10, 66, 67, 68, 73, 74, 75] (.seq (.ops 21 false [⟨some 76, .bin .lss (.t 75) (.t 74), none, false, false, []⟩])
      (.seq (.cond (.t 76)
       (.skip)
       (.exit 6))
      (.seq (.block 7 (.seq (.ops 22 false [⟨some 77, .ia 1 [.int .i64 0] (.t 73) (.t 75), none, false, false, []⟩,
        ⟨some 78, .ld none [.int .i64 0] (.t 77), none, false, false, [77]⟩,
        ⟨some 16, .mv (.t 78), none, false, false, [78]⟩])
       (.seq (.ops 23 false [⟨some 79, .mv (.t 7), none, false, false, []⟩,
        ⟨some 80, .mv (.t 16), none, false, false, [16]⟩,
        ⟨some 81, .look (.int .i64 0) false (.t 79) (.t 80), none, false, false, [79, 80]⟩,
        ⟨some 82, .bin .eql (.t 81) (.c (.int .i64 0)), none, false, false, [81]⟩])
       (.cond (.t 82)
        (.seq (.ops 24 false [⟨some 6, .mv (.c (.bool false)), none, false, false, []⟩])
        (.ret))
        (.skip)))))
      (.ops 25 false [⟨some 83, .bin .add (.t 75) (.c (.int .i64 1)), none, false, false, [75]⟩,
       ⟨some 75, .mv (.t 83), none, false, false, [83]⟩])))))))))
   (.ops 26 false [⟨some 84, .bin .add (.t 68) (.c (.int .i64 1)), none, false, false, [68]⟩,
    ⟨some 68, .mv (.t 84), none, false, false, [84]⟩])))))))
 (.seq (.ops 27 false [⟨some 85, .mv (.t 7), none, false, false, [7]⟩,
  ⟨some 86, .lenm (.t 85), none, false, false, [85]⟩,
  ⟨some 87, .mv (.t 10), none, false, false, [10]⟩,
  ⟨some 88, .mv (.t 2), none, false, false, []⟩,
  ⟨some 89, .len (.t 88), none, false, false, [88]⟩,
  ⟨some 90, .bin .add (.t 87) (.t 89), none, false, false, [87, 89]⟩,
  ⟨some 91, .bin .eql (.t 86) (.t 90), none, false, false, [86, 90]⟩,
  ⟨some 92, .mv (.t 91), none, false, false, [91]⟩,
  ⟨some 93, .mv (.t 2), (some (92, true)), true, false, []⟩,
  ⟨some 94, .len (.o 93), (some (92, true)), true, false, [93]⟩,
  ⟨some 95, .bin .gtr (.o 94) (.c (.int .i64 0)), (some (92, true)), true, false, [94]⟩,
  ⟨some 96, .pick (.t 92) (.t 95) (.c (.bool false)), none, false, false, [92, 95]⟩,
  ⟨some 97, .mv (.t 96), none, false, false, [96]⟩,
  ⟨some 98, .mv (.t 1), (some (97, true)), true, false, [1]⟩,
  ⟨some 99, .len (.o 98), (some (97, true)), true, false, [98]⟩,
  ⟨some 100, .mv (.t 2), (some (97, true)), true, false, [2]⟩,
  ⟨some 101, .len (.o 100), (some (97, true)), true, false, [100]⟩,
  ⟨some 102, .bin .add (.o 99) (.o 101), (some (97, true)), true, false, [99, 101]⟩,
  ⟨some 103, .mv (.t 0), (some (97, true)), true, false, [0]⟩,
  ⟨some 104, .bin .leq (.o 102) (.o 103), (some (97, true)), true, false, [102, 103]⟩,
  ⟨some 105, .pick (.t 97) (.t 104) (.c (.bool false)), none, false, false, [97, 104]⟩,
  ⟨some 106, .mv (.t 105), none, false, false, [105]⟩,
  ⟨some 107, .call (.c (.fn 47 [] [])) [], (some (106, true)), true, false, []⟩,
  ⟨some 108, .pick (.t 106) (.t 107) (.c (.bool false)), none, false, false, [106, 107]⟩,
  ⟨some 6, .mv (.t 108), none, false, false, [108]⟩])
 (.ret))))))))
def rs_l23_BatchFull : List IRes := [.t 6]
theorem ok_l23_BatchFull : fnOk Try.prog 9 ic_l23_BatchFull rs_l23_BatchFull 109 = true := by kernel_rfl

/-- tallyman/tallymanlaw23.BatchTurned -/
def ic_l23_BatchTurned : ICode :=
 .seq (.ops 0 false [⟨some 8, .mv (.c (.bool false)), none, false, false, [8]⟩])
 (.seq (.seq (.ops 1 false [⟨some 18, .mv (.t 1), none, false, false, []⟩,
  ⟨some 19, .call (.c (.fn 44 [] [])) [.t 18, .c (.int .i64 70)], none, false, false, [18]⟩,
  ⟨some 20, .not (.t 19), none, false, false, [19]⟩,
  ⟨some 21, .mv (.t 20), none, false, false, [20]⟩,
  ⟨some 22, .mv (.t 2), (some (21, false)), true, false, []⟩,
  ⟨some 23, .call (.c (.fn 45 [] [])) [.o 22, .c (.int .i64 20)], (some (21, false)), true, false, [22]⟩,
  ⟨some 24, .not (.o 23), (some (21, false)), true, false, [23]⟩,
  ⟨some 25, .pick (.t 21) (.c (.bool true)) (.t 24), none, false, false, [21, 24]⟩,
  ⟨some 26, .mv (.t 25), none, false, false, [25]⟩,
  ⟨some 27, .mv (.t 0), (some (26, false)), true, false, []⟩,
  ⟨some 28, .mv (.t 1), (some (26, false)), true, false, []⟩,
  ⟨some 29, .mv (.t 2), (some (26, false)), true, false, []⟩,
  ⟨some 30, .call (.c (.fn 46 [] [])) [.o 27, .o 28, .o 29], (some (26, false)), true, false, [27, 28, 29]⟩,
  ⟨some 31, .bin .neq (.o 30) (.c (.int .i64 0)), (some (26, false)), true, false, [30]⟩,
  ⟨some 32, .pick (.t 26) (.c (.bool true)) (.t 31), none, false, false, [26, 31]⟩,
  ⟨some 33, .mv (.t 32), none, false, false, [32]⟩,
  ⟨some 34, .mv (.t 2), (some (33, false)), true, false, []⟩,
  ⟨some 35, .len (.o 34), (some (33, false)), true, false, [34]⟩,
  ⟨some 36, .bin .eql (.o 35) (.c (.int .i64 0)), (some (33, false)), true, false, [35]⟩,
  ⟨some 37, .pick (.t 33) (.c (.bool true)) (.t 36), none, false, false, [33, 36]⟩])
 (.cond (.t 37)
  (.seq (.ops 2 false [⟨some 38, .call (.c (.fn 47 [] [])) [], none, false, false, []⟩,
   ⟨some 8, .mv (.t 38), none, false, false, [38]⟩])
  (.ret))
  (.skip)))
 (.seq (.ops 3 false [⟨some 39, .mv (.t 3), none, false, false, [3]⟩,
  ⟨some 40, .cvi .i64 (.t 39), none, false, false, [39]⟩,
  ⟨some 41, .mv (.t 2), none, false, false, []⟩,
  ⟨some 42, .len (.t 41), none, false, false, [41]⟩,
  ⟨some 43, .bin .rem (.t 40) (.t 42), none, false, false, [40, 42]⟩,
  ⟨some 9, .mv (.t 43), none, false, false, [43]⟩])
 (.seq (.ops 4 true [⟨some 44, .rowOwn 9 [], none, false, false, []⟩,
  ⟨some 45, .mv (.t 2), none, false, false, []⟩,
  ⟨some 46, .mv (.t 9), none, false, false, []⟩,
  ⟨some 47, .slc 9 (.t 45) (some (.t 46)) none, none, false, true, [45, 46]⟩,
  ⟨some 48, .app 9 (.t 44) (.t 47), none, false, false, [44, 47]⟩,
  ⟨some 49, .mv (.t 2), none, false, false, []⟩,
  ⟨some 50, .mv (.t 9), none, false, false, [9]⟩,
  ⟨some 51, .slc 9 (.t 49) none (some (.t 50)), none, false, true, [49, 50]⟩,
  ⟨some 52, .app 9 (.t 48) (.t 51), none, false, false, [48, 51]⟩,
  ⟨some 10, .mv (.t 52), none, false, false, [52]⟩])
 (.seq (.ops 5 false [⟨some 54, .mv (.t 2), none, false, false, []⟩,
  ⟨some 55, .call (.c (.fn 48 [] [])) [.t 54], none, false, false, [54]⟩,
  ⟨some 53, .mv (.t 55), none, false, false, [55]⟩,
  ⟨some 56, .ext 0 (.t 53), none, false, false, []⟩,
  ⟨some 57, .ext 1 (.t 53), none, false, false, [53]⟩,
  ⟨some 11, .mv (.t 56), none, false, false, [56]⟩,
  ⟨some 12, .mv (.t 57), none, false, false, [57]⟩])
 (.seq (.ops 6 false [⟨some 59, .mv (.t 10), none, false, false, []⟩,
  ⟨some 60, .call (.c (.fn 48 [] [])) [.t 59], none, false, false, [59]⟩,
  ⟨some 58, .mv (.t 60), none, false, false, [60]⟩,
  ⟨some 61, .ext 0 (.t 58), none, false, false, []⟩,
  ⟨some 62, .ext 1 (.t 58), none, false, false, [58]⟩,
  ⟨some 13, .mv (.t 61), none, false, false, [61]⟩,
  ⟨some 14, .mv (.t 62), none, false, false, [62]⟩])
 (.seq (.seq (.ops 7 false [⟨some 63, .mv (.t 0), none, false, false, []⟩,
  ⟨some 64, .mv (.t 1), none, false, false, []⟩,
  ⟨some 65, .mv (.t 10), none, false, false, [10]⟩,
  ⟨some 66, .call (.c (.fn 46 [] [])) [.t 63, .t 64, .t 65], none, false, false, [63, 64, 65]⟩,
  ⟨some 67, .bin .neq (.t 66) (.c (.int .i64 0)), none, false, false, [66]⟩,
  ⟨some 68, .mv (.t 67), none, false, false, [67]⟩,
  ⟨some 69, .mv (.t 12), (some (68, false)), true, false, [12]⟩,
  ⟨some 70, .not (.o 69), (some (68, false)), true, false, [69]⟩,
  ⟨some 71, .pick (.t 68) (.c (.bool true)) (.t 70), none, false, false, [68, 70]⟩,
  ⟨some 72, .mv (.t 71), none, false, false, [71]⟩,
  ⟨some 73, .mv (.t 14), (some (72, false)), true, false, [14]⟩,
  ⟨some 74, .not (.o 73), (some (72, false)), true, false, [73]⟩,
  ⟨some 75, .pick (.t 72) (.c (.bool true)) (.t 74), none, false, false, [72, 74]⟩,
  ⟨some 76, .mv (.t 75), none, false, false, [75]⟩,
  ⟨some 77, .mv (.t 11), (some (76, false)), true, false, []⟩,
  ⟨some 78, .mv (.t 13), (some (76, false)), true, false, [13]⟩,
  ⟨some 79, .call (.c (.fn 22 [] [])) [.o 77, .o 78], (some (76, false)), true, false, [77, 78]⟩,
  ⟨some 80, .not (.o 79), (some (76, false)), true, false, [79]⟩,
  ⟨some 81, .pick (.t 76) (.c (.bool true)) (.t 80), none, false, false, [76, 80]⟩,
  ⟨some 82, .mv (.t 81), none, false, false, [81]⟩,
  ⟨some 83, .mv (.t 11), (some (82, false)), true, false, []⟩,
  ⟨some 84, .len (.o 83), (some (82, false)), true, false, [83]⟩,
  ⟨some 85, .mv (.t 2), (some (82, false)), true, false, []⟩,
  ⟨some 86, .len (.o 85), (some (82, false)), true, false, [85]⟩,
  ⟨some 87, .bin .neq (.o 84) (.o 86), (some (82, false)), true, false, [84, 86]⟩,
  ⟨some 88, .pick (.t 82) (.c (.bool true)) (.t 87), none, false, false, [82, 87]⟩])
 (.cond (.t 88)
  (.seq (.ops 8 false [⟨some 8, .mv (.c (.bool false)), none, false, false, []⟩])
  (.ret))
  (.skip)))
 (.seq (.ops 9 false [⟨some 15, .mv (.c (.nils)), none, false, false, []⟩])
 (.seq (.seq (.ops 10 false [⟨some 89, .mv (.t 2), none, false, false, []⟩,
  ⟨some 90, .len (.t 89), none, false, false, []⟩,
  ⟨some 91, .mv (.c (.int .i64 0)), none, false, false, []⟩])
 (.block 0 (.loop [0, 1, 2, 11, 15, 89, 90, 91] (.seq (.ops 11 false [⟨some 92, .bin .lss (.t 91) (.t 90), none, false, false, []⟩])
   (.seq (.cond (.t 92)
    (.skip)
    (.exit 0))
   (.seq (.block 1 (.seq (.ops 12 false [⟨some 93, .ia 9 [.int .i64 0, .int .i64 0, .int .u64 0, .int .u64 0, .int .i64 0, .int .i64 0, .int .i64 0, .int .i64 0, .view []] (.t 89) (.t 91), none, false, false, []⟩,
     ⟨some 94, .ld (some 9) [.int .i64 0, .int .i64 0, .int .u64 0, .int .u64 0, .int .i64 0, .int .i64 0, .int .i64 0, .int .i64 0, .view []] (.t 93), none, false, false, [93]⟩,
     ⟨some 17, .alloc [.int .i64 0, .int .i64 0, .int .u64 0, .int .u64 0, .int .i64 0, .int .i64 0, .int .i64 0, .int .i64 0, .nils], none, false, false, []⟩,
     ⟨none, .st 9 (.t 17) (.t 94), none, false, false, [94]⟩])
    (.seq (.ops 13 true [⟨some 95, .fa 0 (.t 17), none, false, false, []⟩,
     ⟨some 96, .ld none [] (.t 95), none, false, false, [95]⟩,
     ⟨some 97, .mv (.t 11), none, false, false, []⟩,
     ⟨some 98, .mv (.t 11), none, false, false, []⟩,
     ⟨some 99, .len (.t 98), none, false, false, [98]⟩,
     ⟨some 100, .bin .sub (.t 99) (.c (.int .i64 1)), none, false, false, [99]⟩,
     ⟨some 101, .ia 1 [.int .i64 0] (.t 97) (.t 100), none, false, false, [97, 100]⟩,
     ⟨some 102, .ld none [.int .i64 0] (.t 101), none, false, false, [101]⟩,
     ⟨some 103, .bin .neq (.t 96) (.t 102), none, false, false, [96, 102]⟩])
    (.cond (.t 103)
     (.ops 14 false [⟨some 104, .mv (.t 15), none, false, false, [15]⟩,
      ⟨some 105, .ld (some 9) [] (.t 17), none, false, false, [17]⟩,
      ⟨some 106, .rowView 9 [.t 105], none, false, false, [105]⟩,
      ⟨some 107, .app 9 (.t 104) (.t 106), none, false, false, [104, 106]⟩,
      ⟨some 15, .mv (.t 107), none, false, false, [107]⟩])
     (.skip)))))
   (.ops 15 false [⟨some 108, .bin .add (.t 91) (.c (.int .i64 1)), none, false, false, [91]⟩,
    ⟨some 91, .mv (.t 108), none, false, false, [108]⟩])))))))
 (.seq (.ops 16 false [⟨some 109, .mv (.t 2), none, false, false, [2]⟩,
  ⟨some 110, .len (.t 109), none, false, false, [109]⟩,
  ⟨some 111, .bin .eql (.t 110) (.c (.int .i64 1)), none, false, false, [110]⟩,
  ⟨some 112, .mv (.t 111), none, false, false, [111]⟩,
  ⟨some 113, .mv (.t 0), (some (112, false)), true, false, [0]⟩,
  ⟨some 114, .mv (.t 1), (some (112, false)), true, false, [1]⟩,
  ⟨some 115, .mv (.t 15), (some (112, false)), true, false, [15]⟩,
  ⟨some 116, .call (.c (.fn 46 [] [])) [.o 113, .o 114, .o 115], (some (112, false)), true, false, [113, 114, 115]⟩,
  ⟨some 117, .bin .eql (.o 116) (.c (.int .i64 0)), (some (112, false)), true, false, [116]⟩,
  ⟨some 118, .pick (.t 112) (.c (.bool true)) (.t 117), none, false, false, [112, 117]⟩,
  ⟨some 119, .mv (.t 118), none, false, false, [118]⟩,
  ⟨some 120, .call (.c (.fn 47 [] [])) [], (some (119, true)), true, false, []⟩,
  ⟨some 121, .pick (.t 119) (.t 120) (.c (.bool false)), none, false, false, [119, 120]⟩,
  ⟨some 8, .mv (.t 121), none, false, false, [121]⟩])
 (.ret))))))))))
def rs_l23_BatchTurned : List IRes := [.t 8]
theorem ok_l23_BatchTurned : fnOk Try.prog 8 ic_l23_BatchTurned rs_l23_BatchTurned 122 = true := by kernel_rfl

end Go.Proofs.Ytaimhgmakgbfaaa.Sx
