/- Functions of the seat in the small language. No conditions: a kit of our own. -/
import Derived.Test.YtjpgnicgapkndaaProg
import Derived.Test.YtjpgnicgapkndaaSx17
namespace Go.Proofs.Ytjpgnicgapkndaa.Sx
open Go Go.RowKit
set_option linter.unusedVariables false

/-- slices.Clone(()tallyman/api.Hand,tallyman/api.Hand) -/
def ic_slices_Clone_api_Hand_api_Hand : ICode :=
 .seq (.ops 0 false [⟨some 2, .mv (.c (.nils)), none, false, false, [2]⟩])
 (.seq (.seq (.ops 1 false [⟨some 3, .mv (.t 0), none, false, false, []⟩,
  ⟨some 4, .eqnil false .s (.t 3), none, true, false, [3]⟩])
 (.cond (.t 4)
  (.seq (.ops 2 false [⟨some 2, .mv (.c (.nils)), none, false, false, []⟩])
  (.ret))
  (.skip)))
 (.seq (.ops 3 false [⟨some 5, .rowOwn 3 [], none, false, false, []⟩,
  ⟨some 6, .mv (.t 0), none, false, false, [0]⟩,
  ⟨some 7, .app 3 (.t 5) (.t 6), none, false, false, [5, 6]⟩,
  ⟨some 2, .mv (.t 7), none, false, false, [7]⟩])
 (.ret)))
def rs_slices_Clone_api_Hand_api_Hand : List IRes := [.t 2]
/-- slices.Clone(()tallyman/api.Lease,tallyman/api.Lease) -/
def ic_slices_Clone_api_Lease_api_Lease : ICode :=
 .seq (.ops 0 false [⟨some 2, .mv (.c (.nils)), none, false, false, [2]⟩])
 (.seq (.seq (.ops 1 false [⟨some 3, .mv (.t 0), none, false, false, []⟩,
  ⟨some 4, .eqnil false .s (.t 3), none, true, false, [3]⟩])
 (.cond (.t 4)
  (.seq (.ops 2 false [⟨some 2, .mv (.c (.nils)), none, false, false, []⟩])
  (.ret))
  (.skip)))
 (.seq (.ops 3 false [⟨some 5, .rowOwn 7 [], none, false, false, []⟩,
  ⟨some 6, .mv (.t 0), none, false, false, [0]⟩,
  ⟨some 7, .app 7 (.t 5) (.t 6), none, false, false, [5, 6]⟩,
  ⟨some 2, .mv (.t 7), none, false, false, [7]⟩])
 (.ret)))
def rs_slices_Clone_api_Lease_api_Lease : List IRes := [.t 2]
/-- slices.Clone(()tallyman/api.Lock,tallyman/api.Lock) -/
def ic_slices_Clone_api_Lock_api_Lock : ICode :=
 .seq (.ops 0 false [⟨some 2, .mv (.c (.nils)), none, false, false, [2]⟩])
 (.seq (.seq (.ops 1 false [⟨some 3, .mv (.t 0), none, false, false, []⟩,
  ⟨some 4, .eqnil false .s (.t 3), none, true, false, [3]⟩])
 (.cond (.t 4)
  (.seq (.ops 2 false [⟨some 2, .mv (.c (.nils)), none, false, false, []⟩])
  (.ret))
  (.skip)))
 (.seq (.ops 3 false [⟨some 5, .rowOwn 3 [], none, false, false, []⟩,
  ⟨some 6, .mv (.t 0), none, false, false, [0]⟩,
  ⟨some 7, .app 3 (.t 5) (.t 6), none, false, false, [5, 6]⟩,
  ⟨some 2, .mv (.t 7), none, false, false, [7]⟩])
 (.ret)))
def rs_slices_Clone_api_Lock_api_Lock : List IRes := [.t 2]
/-- slices.Clone(()tallyman/api.Task,tallyman/api.Task) -/
def ic_slices_Clone_api_Task_api_Task : ICode :=
 .seq (.ops 0 false [⟨some 2, .mv (.c (.nils)), none, false, false, [2]⟩])
 (.seq (.seq (.ops 1 false [⟨some 3, .mv (.t 0), none, false, false, []⟩,
  ⟨some 4, .eqnil false .s (.t 3), none, true, false, [3]⟩])
 (.cond (.t 4)
  (.seq (.ops 2 false [⟨some 2, .mv (.c (.nils)), none, false, false, []⟩])
  (.ret))
  (.skip)))
 (.seq (.ops 3 false [⟨some 5, .rowOwn 14 [], none, false, false, []⟩,
  ⟨some 6, .mv (.t 0), none, false, false, [0]⟩,
  ⟨some 7, .app 14 (.t 5) (.t 6), none, false, false, [5, 6]⟩,
  ⟨some 2, .mv (.t 7), none, false, false, [7]⟩])
 (.ret)))
def rs_slices_Clone_api_Task_api_Task : List IRes := [.t 2]
/-- slices.ContainsFunc(()tallyman/api.Aisle,tallyman/api.Aisle) -/
def ic_slices_ContainsFunc_api_Aisle_api_Aisle : ICode :=
 .seq (.ops 0 false [⟨some 4, .mv (.c (.bool false)), none, false, false, [4]⟩])
 (.seq (.ops 1 false [⟨some 5, .mv (.t 0), none, false, false, [0]⟩,
  ⟨some 6, .mv (.t 1), none, false, false, [1]⟩,
  ⟨some 7, .call (.c (.fn 29 [] [])) [.t 5, .t 6], none, false, false, [5, 6]⟩,
  ⟨some 8, .bin .geq (.t 7) (.c (.int .i64 0)), none, false, false, [7]⟩,
  ⟨some 4, .mv (.t 8), none, false, false, [8]⟩])
 (.ret))
def rs_slices_ContainsFunc_api_Aisle_api_Aisle : List IRes := [.t 4]
theorem ok_slices_ContainsFunc_api_Aisle_api_Aisle : fnOk Try.prog 34 ic_slices_ContainsFunc_api_Aisle_api_Aisle rs_slices_ContainsFunc_api_Aisle_api_Aisle 9 = true := by kernel_rfl

def rs_slices_DeleteFunc_int_int : List IRes := [.t 4]
/-- slices.EqualFunc(()tallyman/api.Lease,()tallyman/api.Lease,tallyman/api.Lease,tallyman/api.Lease) -/
def ic_slices_EqualFunc_api_Lease_api_Lease_api_Lease_api_Lease : ICode :=
 .seq (.ops 0 false [⟨some 6, .mv (.c (.bool false)), none, false, false, [6]⟩])
 (.seq (.seq (.ops 1 false [⟨some 10, .mv (.t 0), none, false, false, []⟩,
  ⟨some 11, .len (.t 10), none, false, false, [10]⟩,
  ⟨some 12, .mv (.t 1), none, false, false, []⟩,
  ⟨some 13, .len (.t 12), none, false, false, [12]⟩,
  ⟨some 14, .bin .neq (.t 11) (.t 13), none, false, false, [11, 13]⟩])
 (.cond (.t 14)
  (.seq (.ops 2 false [⟨some 6, .mv (.c (.bool false)), none, false, false, []⟩])
  (.ret))
  (.skip)))
 (.seq (.seq (.ops 3 false [⟨some 15, .mv (.t 0), none, false, false, [0]⟩,
  ⟨some 16, .len (.t 15), none, false, false, []⟩,
  ⟨some 17, .mv (.c (.int .i64 0)), none, false, false, []⟩])
 (.block 0 (.loop [1, 2, 15, 16, 17] (.seq (.ops 4 false [⟨some 18, .bin .lss (.t 17) (.t 16), none, false, false, []⟩])
   (.seq (.cond (.t 18)
    (.skip)
    (.exit 0))
   (.seq (.block 1 (.seq (.ops 5 false [⟨some 19, .mv (.t 17), none, false, false, []⟩,
     ⟨some 20, .ia 7 [.int .i64 0, .int .i64 0, .int .i64 0, .int .i64 0, .int .i64 0, .int .i64 0, .view []] (.t 15) (.t 17), none, false, false, []⟩,
     ⟨some 21, .ld (some 7) [.int .i64 0, .int .i64 0, .int .i64 0, .int .i64 0, .int .i64 0, .int .i64 0, .view []] (.t 20), none, false, false, [20]⟩,
     ⟨some 8, .alloc [.int .i64 0, .int .i64 0, .int .i64 0, .int .i64 0, .int .i64 0, .int .i64 0, .nils], none, false, false, []⟩,
     ⟨some 7, .mv (.t 19), none, false, false, [19]⟩,
     ⟨none, .st 7 (.t 8) (.t 21), none, false, false, [21]⟩])
    (.seq (.ops 6 false [⟨some 22, .mv (.t 1), none, false, false, []⟩,
     ⟨some 23, .mv (.t 7), none, false, false, [7]⟩,
     ⟨some 24, .ia 7 [.int .i64 0, .int .i64 0, .int .i64 0, .int .i64 0, .int .i64 0, .int .i64 0, .view []] (.t 22) (.t 23), none, false, false, [22, 23]⟩,
     ⟨some 25, .ld (some 7) [.int .i64 0, .int .i64 0, .int .i64 0, .int .i64 0, .int .i64 0, .int .i64 0, .view []] (.t 24), none, false, false, [24]⟩,
     ⟨some 9, .alloc [.int .i64 0, .int .i64 0, .int .i64 0, .int .i64 0, .int .i64 0, .int .i64 0, .nils], none, false, false, []⟩,
     ⟨none, .st 7 (.t 9) (.t 25), none, false, false, [25]⟩])
    (.seq (.ops 7 false [⟨some 26, .mv (.t 2), none, false, false, []⟩,
     ⟨some 27, .ld (some 7) [] (.t 8), none, false, false, [8]⟩,
     ⟨some 28, .ld (some 7) [] (.t 9), none, false, false, [9]⟩,
     ⟨some 29, .call (.t 26) [.t 27, .t 28], none, false, false, [26, 27, 28]⟩,
     ⟨some 30, .not (.t 29), none, false, false, [29]⟩])
    (.cond (.t 30)
     (.seq (.ops 8 false [⟨some 6, .mv (.c (.bool false)), none, false, false, []⟩])
     (.ret))
     (.skip))))))
   (.ops 9 false [⟨some 31, .bin .add (.t 17) (.c (.int .i64 1)), none, false, false, [17]⟩,
    ⟨some 17, .mv (.t 31), none, false, false, [31]⟩])))))))
 (.seq (.ops 10 false [⟨some 6, .mv (.c (.bool true)), none, false, false, []⟩])
 (.ret))))
def rs_slices_EqualFunc_api_Lease_api_Lease_api_Lease_api_Lease : List IRes := [.t 6]
/-- slices.EqualFunc(()tallyman/api.Lock,()tallyman/api.Lock,tallyman/api.Lock,tallyman/api.Lock) -/
def ic_slices_EqualFunc_api_Lock_api_Lock_api_Lock_api_Lock : ICode :=
 .seq (.ops 0 false [⟨some 6, .mv (.c (.bool false)), none, false, false, [6]⟩])
 (.seq (.seq (.ops 1 false [⟨some 10, .mv (.t 0), none, false, false, []⟩,
  ⟨some 11, .len (.t 10), none, false, false, [10]⟩,
  ⟨some 12, .mv (.t 1), none, false, false, []⟩,
  ⟨some 13, .len (.t 12), none, false, false, [12]⟩,
  ⟨some 14, .bin .neq (.t 11) (.t 13), none, false, false, [11, 13]⟩])
 (.cond (.t 14)
  (.seq (.ops 2 false [⟨some 6, .mv (.c (.bool false)), none, false, false, []⟩])
  (.ret))
  (.skip)))
 (.seq (.seq (.ops 3 false [⟨some 15, .mv (.t 0), none, false, false, [0]⟩,
  ⟨some 16, .len (.t 15), none, false, false, []⟩,
  ⟨some 17, .mv (.c (.int .i64 0)), none, false, false, []⟩])
 (.block 0 (.loop [1, 2, 15, 16, 17] (.seq (.ops 4 false [⟨some 18, .bin .lss (.t 17) (.t 16), none, false, false, []⟩])
   (.seq (.cond (.t 18)
    (.skip)
    (.exit 0))
   (.seq (.block 1 (.seq (.ops 5 false [⟨some 19, .mv (.t 17), none, false, false, []⟩,
     ⟨some 20, .ia 3 [.int .i64 0, .int .i64 0, .view []] (.t 15) (.t 17), none, false, false, []⟩,
     ⟨some 21, .ld (some 3) [.int .i64 0, .int .i64 0, .view []] (.t 20), none, false, false, [20]⟩,
     ⟨some 8, .alloc [.int .i64 0, .int .i64 0, .nils], none, false, false, []⟩,
     ⟨some 7, .mv (.t 19), none, false, false, [19]⟩,
     ⟨none, .st 3 (.t 8) (.t 21), none, false, false, [21]⟩])
    (.seq (.ops 6 false [⟨some 22, .mv (.t 1), none, false, false, []⟩,
     ⟨some 23, .mv (.t 7), none, false, false, [7]⟩,
     ⟨some 24, .ia 3 [.int .i64 0, .int .i64 0, .view []] (.t 22) (.t 23), none, false, false, [22, 23]⟩,
     ⟨some 25, .ld (some 3) [.int .i64 0, .int .i64 0, .view []] (.t 24), none, false, false, [24]⟩,
     ⟨some 9, .alloc [.int .i64 0, .int .i64 0, .nils], none, false, false, []⟩,
     ⟨none, .st 3 (.t 9) (.t 25), none, false, false, [25]⟩])
    (.seq (.ops 7 false [⟨some 26, .mv (.t 2), none, false, false, []⟩,
     ⟨some 27, .ld (some 3) [] (.t 8), none, false, false, [8]⟩,
     ⟨some 28, .ld (some 3) [] (.t 9), none, false, false, [9]⟩,
     ⟨some 29, .call (.t 26) [.t 27, .t 28], none, false, false, [26, 27, 28]⟩,
     ⟨some 30, .not (.t 29), none, false, false, [29]⟩])
    (.cond (.t 30)
     (.seq (.ops 8 false [⟨some 6, .mv (.c (.bool false)), none, false, false, []⟩])
     (.ret))
     (.skip))))))
   (.ops 9 false [⟨some 31, .bin .add (.t 17) (.c (.int .i64 1)), none, false, false, [17]⟩,
    ⟨some 17, .mv (.t 31), none, false, false, [31]⟩])))))))
 (.seq (.ops 10 false [⟨some 6, .mv (.c (.bool true)), none, false, false, []⟩])
 (.ret))))
def rs_slices_EqualFunc_api_Lock_api_Lock_api_Lock_api_Lock : List IRes := [.t 6]
/-- slices.EqualFunc(()tallyman/api.Task,()tallyman/api.Task,tallyman/api.Task,tallyman/api.Task) -/
def ic_slices_EqualFunc_api_Task_api_Task_api_Task_api_Task : ICode :=
 .seq (.ops 0 false [⟨some 6, .mv (.c (.bool false)), none, false, false, [6]⟩])
 (.seq (.seq (.ops 1 false [⟨some 10, .mv (.t 0), none, false, false, []⟩,
  ⟨some 11, .len (.t 10), none, false, false, [10]⟩,
  ⟨some 12, .mv (.t 1), none, false, false, []⟩,
  ⟨some 13, .len (.t 12), none, false, false, [12]⟩,
  ⟨some 14, .bin .neq (.t 11) (.t 13), none, false, false, [11, 13]⟩])
 (.cond (.t 14)
  (.seq (.ops 2 false [⟨some 6, .mv (.c (.bool false)), none, false, false, []⟩])
  (.ret))
  (.skip)))
 (.seq (.seq (.ops 3 false [⟨some 15, .mv (.t 0), none, false, false, [0]⟩,
  ⟨some 16, .len (.t 15), none, false, false, []⟩,
  ⟨some 17, .mv (.c (.int .i64 0)), none, false, false, []⟩])
 (.block 0 (.loop [1, 2, 15, 16, 17] (.seq (.ops 4 false [⟨some 18, .bin .lss (.t 17) (.t 16), none, false, false, []⟩])
   (.seq (.cond (.t 18)
    (.skip)
    (.exit 0))
   (.seq (.block 1 (.seq (.ops 5 false [⟨some 19, .mv (.t 17), none, false, false, []⟩,
     ⟨some 20, .ia 14 [.int .i64 0, .int .i64 0, .int .u64 0, .int .u64 0, .int .i64 0, .int .i64 0, .int .i64 0, .int .i64 0, .view [], .int .i64 0, .int .i64 0, .int .i64 0, .int .i64 0, .view []] (.t 15) (.t 17), none, false, false, []⟩,
     ⟨some 21, .ld (some 14) [.int .i64 0, .int .i64 0, .int .u64 0, .int .u64 0, .int .i64 0, .int .i64 0, .int .i64 0, .int .i64 0, .view [], .int .i64 0, .int .i64 0, .int .i64 0, .int .i64 0, .view []] (.t 20), none, false, false, [20]⟩,
     ⟨some 8, .alloc [.int .i64 0, .int .i64 0, .int .u64 0, .int .u64 0, .int .i64 0, .int .i64 0, .int .i64 0, .int .i64 0, .nils, .int .i64 0, .int .i64 0, .int .i64 0, .int .i64 0, .nils], none, false, false, []⟩,
     ⟨some 7, .mv (.t 19), none, false, false, [19]⟩,
     ⟨none, .st 14 (.t 8) (.t 21), none, false, false, [21]⟩])
    (.seq (.ops 6 false [⟨some 22, .mv (.t 1), none, false, false, []⟩,
     ⟨some 23, .mv (.t 7), none, false, false, [7]⟩,
     ⟨some 24, .ia 14 [.int .i64 0, .int .i64 0, .int .u64 0, .int .u64 0, .int .i64 0, .int .i64 0, .int .i64 0, .int .i64 0, .view [], .int .i64 0, .int .i64 0, .int .i64 0, .int .i64 0, .view []] (.t 22) (.t 23), none, false, false, [22, 23]⟩,
     ⟨some 25, .ld (some 14) [.int .i64 0, .int .i64 0, .int .u64 0, .int .u64 0, .int .i64 0, .int .i64 0, .int .i64 0, .int .i64 0, .view [], .int .i64 0, .int .i64 0, .int .i64 0, .int .i64 0, .view []] (.t 24), none, false, false, [24]⟩,
     ⟨some 9, .alloc [.int .i64 0, .int .i64 0, .int .u64 0, .int .u64 0, .int .i64 0, .int .i64 0, .int .i64 0, .int .i64 0, .nils, .int .i64 0, .int .i64 0, .int .i64 0, .int .i64 0, .nils], none, false, false, []⟩,
     ⟨none, .st 14 (.t 9) (.t 25), none, false, false, [25]⟩])
    (.seq (.ops 7 false [⟨some 26, .mv (.t 2), none, false, false, []⟩,
     ⟨some 27, .ld (some 14) [] (.t 8), none, false, false, [8]⟩,
     ⟨some 28, .ld (some 14) [] (.t 9), none, false, false, [9]⟩,
     ⟨some 29, .call (.t 26) [.t 27, .t 28], none, false, false, [26, 27, 28]⟩,
     ⟨some 30, .not (.t 29), none, false, false, [29]⟩])
    (.cond (.t 30)
     (.seq (.ops 8 false [⟨some 6, .mv (.c (.bool false)), none, false, false, []⟩])
     (.ret))
     (.skip))))))
   (.ops 9 false [⟨some 31, .bin .add (.t 17) (.c (.int .i64 1)), none, false, false, [17]⟩,
    ⟨some 17, .mv (.t 31), none, false, false, [31]⟩])))))))
 (.seq (.ops 10 false [⟨some 6, .mv (.c (.bool true)), none, false, false, []⟩])
 (.ret))))
def rs_slices_EqualFunc_api_Task_api_Task_api_Task_api_Task : List IRes := [.t 6]
/-- slices.Equal(()tallyman/api.Hand,tallyman/api.Hand) -/
def ic_slices_Equal_api_Hand_api_Hand : ICode :=
 .seq (.ops 0 false [⟨some 4, .mv (.c (.bool false)), none, false, false, [4]⟩])
 (.seq (.seq (.ops 1 false [⟨some 6, .mv (.t 0), none, false, false, []⟩,
  ⟨some 7, .len (.t 6), none, false, false, [6]⟩,
  ⟨some 8, .mv (.t 1), none, false, false, []⟩,
  ⟨some 9, .len (.t 8), none, false, false, [8]⟩,
  ⟨some 10, .bin .neq (.t 7) (.t 9), none, false, false, [7, 9]⟩])
 (.cond (.t 10)
  (.seq (.ops 2 false [⟨some 4, .mv (.c (.bool false)), none, false, false, []⟩])
  (.ret))
  (.skip)))
 (.seq (.seq (.ops 3 false [⟨some 11, .mv (.t 0), none, false, false, []⟩,
  ⟨some 12, .len (.t 11), none, false, false, [11]⟩,
  ⟨some 13, .mv (.c (.int .i64 0)), none, false, false, []⟩])
 (.block 0 (.loop [0, 1, 12, 13] (.seq (.ops 4 false [⟨some 14, .bin .lss (.t 13) (.t 12), none, false, false, []⟩])
   (.seq (.cond (.t 14)
    (.skip)
    (.exit 0))
   (.seq (.block 1 (.seq (.ops 5 false [⟨some 15, .mv (.t 13), none, false, false, []⟩,
     ⟨some 5, .mv (.t 15), none, false, false, [15]⟩])
    (.seq (.ops 6 true [⟨some 16, .mv (.t 0), none, false, false, []⟩,
     ⟨some 17, .mv (.t 5), none, false, false, []⟩,
     ⟨some 18, .ia 3 [.int .i64 0, .int .u64 0, .bool false] (.t 16) (.t 17), none, false, false, [16, 17]⟩,
     ⟨some 19, .ld (some 3) [.int .i64 0, .int .u64 0, .bool false] (.t 18), none, false, false, [18]⟩,
     ⟨some 20, .mv (.t 1), none, false, false, []⟩,
     ⟨some 21, .mv (.t 5), none, false, false, [5]⟩,
     ⟨some 22, .ia 3 [.int .i64 0, .int .u64 0, .bool false] (.t 20) (.t 21), none, false, false, [20, 21]⟩,
     ⟨some 23, .ld (some 3) [.int .i64 0, .int .u64 0, .bool false] (.t 22), none, false, false, [22]⟩,
     ⟨some 24, .eqc true [false, false, true] (.t 19) (.t 23), none, false, false, [19, 23]⟩])
    (.cond (.t 24)
     (.seq (.ops 7 false [⟨some 4, .mv (.c (.bool false)), none, false, false, []⟩])
     (.ret))
     (.skip)))))
   (.ops 8 false [⟨some 25, .bin .add (.t 13) (.c (.int .i64 1)), none, false, false, [13]⟩,
    ⟨some 13, .mv (.t 25), none, false, false, [25]⟩])))))))
 (.seq (.ops 9 false [⟨some 4, .mv (.c (.bool true)), none, false, false, []⟩])
 (.ret))))
def rs_slices_Equal_api_Hand_api_Hand : List IRes := [.t 4]
/-- slices.IndexFunc(()int,int) -/
def ic_slices_IndexFunc_int_int : ICode :=
 .seq (.ops 0 false [⟨some 4, .mv (.c (.int .i64 0)), none, false, false, [4]⟩])
 (.seq (.seq (.ops 1 false [⟨some 6, .mv (.t 0), none, false, false, []⟩,
  ⟨some 7, .len (.t 6), none, false, false, [6]⟩,
  ⟨some 8, .mv (.c (.int .i64 0)), none, false, false, []⟩])
 (.block 0 (.loop [0, 1, 7, 8] (.seq (.ops 2 false [⟨some 9, .bin .lss (.t 8) (.t 7), none, false, false, []⟩])
   (.seq (.cond (.t 9)
    (.skip)
    (.exit 0))
   (.seq (.block 1 (.seq (.ops 3 false [⟨some 10, .mv (.t 8), none, false, false, []⟩,
     ⟨some 5, .mv (.t 10), none, false, false, [10]⟩])
    (.seq (.ops 4 false [⟨some 11, .mv (.t 1), none, false, false, []⟩,
     ⟨some 12, .mv (.t 0), none, false, false, []⟩,
     ⟨some 13, .mv (.t 5), none, false, false, []⟩,
     ⟨some 14, .ia 1 [.int .i64 0] (.t 12) (.t 13), none, false, false, [12, 13]⟩,
     ⟨some 15, .ld none [.int .i64 0] (.t 14), none, false, false, [14]⟩,
     ⟨some 16, .call (.t 11) [.t 15], none, false, false, [11, 15]⟩])
    (.cond (.t 16)
     (.seq (.ops 5 false [⟨some 17, .mv (.t 5), none, false, false, [5]⟩,
      ⟨some 4, .mv (.t 17), none, false, false, [17]⟩])
     (.ret))
     (.skip)))))
   (.ops 6 false [⟨some 18, .bin .add (.t 8) (.c (.int .i64 1)), none, false, false, [8]⟩,
    ⟨some 8, .mv (.t 18), none, false, false, [18]⟩])))))))
 (.seq (.ops 7 false [⟨some 4, .mv (.c (.int .i64 (-1))), none, false, false, []⟩])
 (.ret)))
def rs_slices_IndexFunc_int_int : List IRes := [.t 4]
/-- slices.IndexFunc(()tallyman/api.Aisle,tallyman/api.Aisle) -/
def ic_slices_IndexFunc_api_Aisle_api_Aisle : ICode :=
 .seq (.ops 0 false [⟨some 4, .mv (.c (.int .i64 0)), none, false, false, [4]⟩])
 (.seq (.seq (.ops 1 false [⟨some 6, .mv (.t 0), none, false, false, []⟩,
  ⟨some 7, .len (.t 6), none, false, false, [6]⟩,
  ⟨some 8, .mv (.c (.int .i64 0)), none, false, false, []⟩])
 (.block 0 (.loop [0, 1, 7, 8] (.seq (.ops 2 false [⟨some 9, .bin .lss (.t 8) (.t 7), none, false, false, []⟩])
   (.seq (.cond (.t 9)
    (.skip)
    (.exit 0))
   (.seq (.block 1 (.seq (.ops 3 false [⟨some 10, .mv (.t 8), none, false, false, []⟩,
     ⟨some 5, .mv (.t 10), none, false, false, [10]⟩])
    (.seq (.ops 4 false [⟨some 11, .mv (.t 1), none, false, false, []⟩,
     ⟨some 12, .mv (.t 0), none, false, false, []⟩,
     ⟨some 13, .mv (.t 5), none, false, false, []⟩,
     ⟨some 14, .ia 5 [.int .i64 0, .int .i64 0, .int .i64 0, .int .i64 0, .int .i64 0] (.t 12) (.t 13), none, false, false, [12, 13]⟩,
     ⟨some 15, .ld (some 5) [.int .i64 0, .int .i64 0, .int .i64 0, .int .i64 0, .int .i64 0] (.t 14), none, false, false, [14]⟩,
     ⟨some 16, .call (.t 11) [.t 15], none, false, false, [11, 15]⟩])
    (.cond (.t 16)
     (.seq (.ops 5 false [⟨some 17, .mv (.t 5), none, false, false, [5]⟩,
      ⟨some 4, .mv (.t 17), none, false, false, [17]⟩])
     (.ret))
     (.skip)))))
   (.ops 6 false [⟨some 18, .bin .add (.t 8) (.c (.int .i64 1)), none, false, false, [8]⟩,
    ⟨some 8, .mv (.t 18), none, false, false, [18]⟩])))))))
 (.seq (.ops 7 false [⟨some 4, .mv (.c (.int .i64 (-1))), none, false, false, []⟩])
 (.ret)))
def rs_slices_IndexFunc_api_Aisle_api_Aisle : List IRes := [.t 4]
theorem ok_slices_IndexFunc_api_Aisle_api_Aisle : fnOk Try.prog 29 ic_slices_IndexFunc_api_Aisle_api_Aisle rs_slices_IndexFunc_api_Aisle_api_Aisle 19 = true := by kernel_rfl

/-- slices.IndexFunc(()tallyman/api.Hand,tallyman/api.Hand) -/
def ic_slices_IndexFunc_api_Hand_api_Hand : ICode :=
 .seq (.ops 0 false [⟨some 4, .mv (.c (.int .i64 0)), none, false, false, [4]⟩])
 (.seq (.seq (.ops 1 false [⟨some 6, .mv (.t 0), none, false, false, []⟩,
  ⟨some 7, .len (.t 6), none, false, false, [6]⟩,
  ⟨some 8, .mv (.c (.int .i64 0)), none, false, false, []⟩])
 (.block 0 (.loop [0, 1, 7, 8] (.seq (.ops 2 false [⟨some 9, .bin .lss (.t 8) (.t 7), none, false, false, []⟩])
   (.seq (.cond (.t 9)
    (.skip)
    (.exit 0))
   (.seq (.block 1 (.seq (.ops 3 false [⟨some 10, .mv (.t 8), none, false, false, []⟩,
     ⟨some 5, .mv (.t 10), none, false, false, [10]⟩])
    (.seq (.ops 4 false [⟨some 11, .mv (.t 1), none, false, false, []⟩,
     ⟨some 12, .mv (.t 0), none, false, false, []⟩,
     ⟨some 13, .mv (.t 5), none, false, false, []⟩,
     ⟨some 14, .ia 3 [.int .i64 0, .int .u64 0, .bool false] (.t 12) (.t 13), none, false, false, [12, 13]⟩,
     ⟨some 15, .ld (some 3) [.int .i64 0, .int .u64 0, .bool false] (.t 14), none, false, false, [14]⟩,
     ⟨some 16, .call (.t 11) [.t 15], none, false, false, [11, 15]⟩])
    (.cond (.t 16)
     (.seq (.ops 5 false [⟨some 17, .mv (.t 5), none, false, false, [5]⟩,
      ⟨some 4, .mv (.t 17), none, false, false, [17]⟩])
     (.ret))
     (.skip)))))
   (.ops 6 false [⟨some 18, .bin .add (.t 8) (.c (.int .i64 1)), none, false, false, [8]⟩,
    ⟨some 8, .mv (.t 18), none, false, false, [18]⟩])))))))
 (.seq (.ops 7 false [⟨some 4, .mv (.c (.int .i64 (-1))), none, false, false, []⟩])
 (.ret)))
def rs_slices_IndexFunc_api_Hand_api_Hand : List IRes := [.t 4]
/-- slices.IndexFunc(()tallyman/api.Lease,tallyman/api.Lease) -/
def ic_slices_IndexFunc_api_Lease_api_Lease : ICode :=
 .seq (.ops 0 false [⟨some 4, .mv (.c (.int .i64 0)), none, false, false, [4]⟩])
 (.seq (.seq (.ops 1 false [⟨some 6, .mv (.t 0), none, false, false, []⟩,
  ⟨some 7, .len (.t 6), none, false, false, [6]⟩,
  ⟨some 8, .mv (.c (.int .i64 0)), none, false, false, []⟩])
 (.block 0 (.loop [0, 1, 7, 8] (.seq (.ops 2 false [⟨some 9, .bin .lss (.t 8) (.t 7), none, false, false, []⟩])
   (.seq (.cond (.t 9)
    (.skip)
    (.exit 0))
   (.seq (.block 1 (.seq (.ops 3 false [⟨some 10, .mv (.t 8), none, false, false, []⟩,
     ⟨some 5, .mv (.t 10), none, false, false, [10]⟩])
    (.seq (.ops 4 false [⟨some 11, .mv (.t 1), none, false, false, []⟩,
     ⟨some 12, .mv (.t 0), none, false, false, []⟩,
     ⟨some 13, .mv (.t 5), none, false, false, []⟩,
     ⟨some 14, .ia 7 [.int .i64 0, .int .i64 0, .int .i64 0, .int .i64 0, .int .i64 0, .int .i64 0, .view []] (.t 12) (.t 13), none, false, false, [12, 13]⟩,
     ⟨some 15, .ld (some 7) [.int .i64 0, .int .i64 0, .int .i64 0, .int .i64 0, .int .i64 0, .int .i64 0, .view []] (.t 14), none, false, false, [14]⟩,
     ⟨some 16, .call (.t 11) [.t 15], none, false, false, [11, 15]⟩])
    (.cond (.t 16)
     (.seq (.ops 5 false [⟨some 17, .mv (.t 5), none, false, false, [5]⟩,
      ⟨some 4, .mv (.t 17), none, false, false, [17]⟩])
     (.ret))
     (.skip)))))
   (.ops 6 false [⟨some 18, .bin .add (.t 8) (.c (.int .i64 1)), none, false, false, [8]⟩,
    ⟨some 8, .mv (.t 18), none, false, false, [18]⟩])))))))
 (.seq (.ops 7 false [⟨some 4, .mv (.c (.int .i64 (-1))), none, false, false, []⟩])
 (.ret)))
def rs_slices_IndexFunc_api_Lease_api_Lease : List IRes := [.t 4]
/-- slices.IndexFunc(()tallyman/api.Task,tallyman/api.Task) -/
def ic_slices_IndexFunc_api_Task_api_Task : ICode :=
 .seq (.ops 0 false [⟨some 4, .mv (.c (.int .i64 0)), none, false, false, [4]⟩])
 (.seq (.seq (.ops 1 false [⟨some 6, .mv (.t 0), none, false, false, []⟩,
  ⟨some 7, .len (.t 6), none, false, false, [6]⟩,
  ⟨some 8, .mv (.c (.int .i64 0)), none, false, false, []⟩])
 (.block 0 (.loop [0, 1, 7, 8] (.seq (.ops 2 false [⟨some 9, .bin .lss (.t 8) (.t 7), none, false, false, []⟩])
   (.seq (.cond (.t 9)
    (.skip)
    (.exit 0))
   (.seq (.block 1 (.seq (.ops 3 false [⟨some 10, .mv (.t 8), none, false, false, []⟩,
     ⟨some 5, .mv (.t 10), none, false, false, [10]⟩])
    (.seq (.ops 4 false [⟨some 11, .mv (.t 1), none, false, false, []⟩,
     ⟨some 12, .mv (.t 0), none, false, false, []⟩,
     ⟨some 13, .mv (.t 5), none, false, false, []⟩,
     ⟨some 14, .ia 14 [.int .i64 0, .int .i64 0, .int .u64 0, .int .u64 0, .int .i64 0, .int .i64 0, .int .i64 0, .int .i64 0, .view [], .int .i64 0, .int .i64 0, .int .i64 0, .int .i64 0, .view []] (.t 12) (.t 13), none, false, false, [12, 13]⟩,
     ⟨some 15, .ld (some 14) [.int .i64 0, .int .i64 0, .int .u64 0, .int .u64 0, .int .i64 0, .int .i64 0, .int .i64 0, .int .i64 0, .view [], .int .i64 0, .int .i64 0, .int .i64 0, .int .i64 0, .view []] (.t 14), none, false, false, [14]⟩,
     ⟨some 16, .call (.t 11) [.t 15], none, false, false, [11, 15]⟩])
    (.cond (.t 16)
     (.seq (.ops 5 false [⟨some 17, .mv (.t 5), none, false, false, [5]⟩,
      ⟨some 4, .mv (.t 17), none, false, false, [17]⟩])
     (.ret))
     (.skip)))))
   (.ops 6 false [⟨some 18, .bin .add (.t 8) (.c (.int .i64 1)), none, false, false, [8]⟩,
    ⟨some 8, .mv (.t 18), none, false, false, [18]⟩])))))))
 (.seq (.ops 7 false [⟨some 4, .mv (.c (.int .i64 (-1))), none, false, false, []⟩])
 (.ret)))
def rs_slices_IndexFunc_api_Task_api_Task : List IRes := [.t 4]
/-- tallyman/plan.Meet -/
def ic_plan_Meet : ICode :=
 .seq (.ops 0 false [⟨some 2, .box (.t 0), none, false, false, [0]⟩,
  ⟨some 3, .box (.t 1), none, false, false, [1]⟩,
  ⟨some 4, .mv (.c (.bool false)), none, false, false, [4]⟩])
 (.seq (.ops 1 false [⟨some 6, .fa 1 (.t 2), none, false, false, []⟩,
  ⟨some 7, .fa 0 (.t 6), none, false, false, [6]⟩,
  ⟨some 8, .ld none [] (.t 7), none, false, false, [7]⟩,
  ⟨some 9, .fa 1 (.t 3), none, false, false, []⟩,
  ⟨some 10, .fa 0 (.t 9), none, false, false, [9]⟩,
  ⟨some 11, .ld none [] (.t 10), none, false, false, [10]⟩,
  ⟨some 12, .mx [.t 8, .t 11], none, false, false, [8, 11]⟩,
  ⟨some 13, .fa 1 (.t 2), none, false, false, []⟩,
  ⟨some 14, .fa 1 (.t 13), none, false, false, [13]⟩,
  ⟨some 15, .ld none [] (.t 14), none, false, false, [14]⟩,
  ⟨some 16, .fa 1 (.t 3), none, false, false, []⟩,
  ⟨some 17, .fa 1 (.t 16), none, false, false, [16]⟩,
  ⟨some 18, .ld none [] (.t 17), none, false, false, [17]⟩,
  ⟨some 19, .mx [.t 15, .t 18], none, false, false, [15, 18]⟩,
  ⟨some 20, .build [.int .i64 0, .int .i64 0] [(0, 1, .t 12), (1, 1, .t 19)], none, false, false, [12, 19]⟩,
  ⟨some 21, .fa 3 (.t 2), none, false, false, []⟩,
  ⟨some 22, .fa 0 (.t 21), none, false, false, [21]⟩,
  ⟨some 23, .ld none [] (.t 22), none, false, false, [22]⟩,
  ⟨some 24, .fa 3 (.t 3), none, false, false, []⟩,
  ⟨some 25, .fa 0 (.t 24), none, false, false, [24]⟩,
  ⟨some 26, .ld none [] (.t 25), none, false, false, [25]⟩,
  ⟨some 27, .mn [.t 23, .t 26], none, false, false, [23, 26]⟩,
  ⟨some 28, .fa 3 (.t 2), none, false, false, [2]⟩,
  ⟨some 29, .fa 1 (.t 28), none, false, false, [28]⟩,
  ⟨some 30, .ld none [] (.t 29), none, false, false, [29]⟩,
  ⟨some 31, .fa 3 (.t 3), none, false, false, [3]⟩,
  ⟨some 32, .fa 1 (.t 31), none, false, false, [31]⟩,
  ⟨some 33, .ld none [] (.t 32), none, false, false, [32]⟩,
  ⟨some 34, .mn [.t 30, .t 33], none, false, false, [30, 33]⟩,
  ⟨some 35, .build [.int .i64 0, .int .i64 0] [(0, 1, .t 27), (1, 1, .t 34)], none, false, false, [27, 34]⟩,
  ⟨some 36, .build [.int .i64 0, .int .i64 0, .int .i64 0, .int .i64 0, .int .i64 0] [(1, 2, .t 20), (3, 2, .t 35)], none, false, false, [20, 35]⟩,
  ⟨some 5, .alloc [.int .i64 0, .int .i64 0, .int .i64 0, .int .i64 0, .int .i64 0], none, false, false, []⟩,
  ⟨none, .st 5 (.t 5) (.t 36), none, false, false, [36]⟩])
 (.seq (.ops 2 false [⟨some 37, .ld (some 5) [] (.t 5), none, false, false, []⟩,
  ⟨some 38, .fa 1 (.t 5), none, false, false, [5]⟩,
  ⟨some 39, .ld (some 2) [] (.t 38), none, false, false, [38]⟩,
  ⟨some 40, .call (.c (.fn 31 [] [])) [.t 37, .t 39], none, false, false, [37, 39]⟩,
  ⟨some 4, .mv (.t 40), none, false, false, [40]⟩])
 (.ret)))
def rs_plan_Meet : List IRes := [.t 4]
theorem ok_plan_Meet : fnOk Try.prog 13 ic_plan_Meet rs_plan_Meet 41 = true := by kernel_rfl

/-- tallyman/plan.Right -/
def ic_plan_Right : ICode :=
 .seq (.ops 0 false [⟨some 2, .mv (.c (.bool false)), none, false, false, [2]⟩])
 (.back [0, 3, 4] (.seq (.seq (.ops 1 false [⟨some 6, .mv (.t 0), none, false, false, []⟩,
   ⟨some 7, .len (.t 6), none, false, false, [6]⟩,
   ⟨some 8, .bin .gtr (.t 7) (.c (.int .i64 32)), none, false, false, [7]⟩])
  (.cond (.t 8)
   (.seq (.ops 2 false [⟨some 2, .mv (.c (.bool false)), none, false, false, []⟩])
   (.ret))
   (.skip)))
 (.seq (.ops 3 false [⟨some 3, .mv (.c (.int .i64 0)), none, false, false, []⟩,
   ⟨some 4, .mv (.c (.int .i64 0)), none, false, false, []⟩])
 (.label 0))) 0
  (.seq (.seq (.ops 4 false [⟨some 9, .mv (.t 4), none, false, false, []⟩,
   ⟨some 10, .mv (.t 0), none, false, false, []⟩,
   ⟨some 11, .len (.t 10), none, false, false, [10]⟩,
   ⟨some 12, .bin .eql (.t 9) (.t 11), none, false, false, [9, 11]⟩])
  (.cond (.t 12)
   (.seq (.ops 5 false [⟨some 2, .mv (.c (.bool true)), none, false, false, []⟩])
   (.ret))
   (.skip)))
  (.seq (.ops 6 false [⟨some 13, .mv (.t 0), none, false, false, []⟩,
   ⟨some 14, .mv (.t 4), none, false, false, []⟩,
   ⟨some 15, .ia 5 [.int .i64 0, .int .i64 0, .int .i64 0, .int .i64 0, .int .i64 0] (.t 13) (.t 14), none, false, false, [13, 14]⟩,
   ⟨some 16, .ld (some 5) [.int .i64 0, .int .i64 0, .int .i64 0, .int .i64 0, .int .i64 0] (.t 15), none, false, false, [15]⟩,
   ⟨some 5, .alloc [.int .i64 0, .int .i64 0, .int .i64 0, .int .i64 0, .int .i64 0], none, false, false, []⟩,
   ⟨none, .st 5 (.t 5) (.t 16), none, false, false, [16]⟩])
  (.seq (.seq (.ops 7 false [⟨some 17, .fa 0 (.t 5), none, false, false, []⟩,
   ⟨some 18, .ld none [] (.t 17), none, false, false, [17]⟩,
   ⟨some 19, .mv (.t 3), none, false, false, [3]⟩,
   ⟨some 20, .bin .leq (.t 18) (.t 19), none, false, false, [18, 19]⟩,
   ⟨some 21, .mv (.t 20), none, false, false, [20]⟩,
   ⟨some 22, .fa 0 (.t 5), (some (21, false)), true, false, []⟩,
   ⟨some 23, .ld none [] (.o 22), (some (21, false)), true, false, [22]⟩,
   ⟨some 24, .bin .gtr (.o 23) (.c (.int .i64 999)), (some (21, false)), true, false, [23]⟩,
   ⟨some 25, .pick (.t 21) (.c (.bool true)) (.t 24), none, false, false, [21, 24]⟩,
   ⟨some 26, .mv (.t 25), none, false, false, [25]⟩,
   ⟨some 27, .fa 1 (.t 5), (some (26, false)), true, false, []⟩,
   ⟨some 28, .ld (some 2) [] (.o 27), (some (26, false)), true, false, [27]⟩,
   ⟨some 29, .call (.c (.fn 33 [] [])) [.o 28], (some (26, false)), true, false, [28]⟩,
   ⟨some 30, .not (.o 29), (some (26, false)), true, false, [29]⟩,
   ⟨some 31, .pick (.t 26) (.c (.bool true)) (.t 30), none, false, false, [26, 30]⟩,
   ⟨some 32, .mv (.t 31), none, false, false, [31]⟩,
   ⟨some 33, .fa 3 (.t 5), (some (32, false)), true, false, []⟩,
   ⟨some 34, .ld (some 2) [] (.o 33), (some (32, false)), true, false, [33]⟩,
   ⟨some 35, .call (.c (.fn 33 [] [])) [.o 34], (some (32, false)), true, false, [34]⟩,
   ⟨some 36, .not (.o 35), (some (32, false)), true, false, [35]⟩,
   ⟨some 37, .pick (.t 32) (.c (.bool true)) (.t 36), none, false, false, [32, 36]⟩,
   ⟨some 38, .mv (.t 37), none, false, false, [37]⟩,
   ⟨some 39, .ld (some 5) [] (.t 5), (some (38, false)), true, false, []⟩,
   ⟨some 40, .fa 1 (.t 5), (some (38, false)), true, false, []⟩,
   ⟨some 41, .ld (some 2) [] (.o 40), (some (38, false)), true, false, [40]⟩,
   ⟨some 42, .call (.c (.fn 31 [] [])) [.o 39, .o 41], (some (38, false)), true, false, [39, 41]⟩,
   ⟨some 43, .not (.o 42), (some (38, false)), true, false, [42]⟩,
   ⟨some 44, .pick (.t 38) (.c (.bool true)) (.t 43), none, false, false, [38, 43]⟩])
  (.cond (.t 44)
   (.seq (.ops 8 false [⟨some 2, .mv (.c (.bool false)), none, false, false, []⟩])
   (.ret))
   (.skip)))
  (.seq (.seq (.ops 9 false [⟨some 45, .mv (.t 0), none, false, false, []⟩,
   ⟨some 46, .mv (.t 4), none, false, false, []⟩,
   ⟨some 47, .slc 5 (.t 45) none (some (.t 46)), none, false, false, [45, 46]⟩,
   ⟨some 48, .mkfn 35 [] [.t 5], none, false, false, []⟩,
   ⟨some 49, .call (.c (.fn 34 [] [])) [.t 47, .t 48], none, false, false, [47, 48]⟩])
  (.cond (.t 49)
   (.seq (.ops 10 false [⟨some 2, .mv (.c (.bool false)), none, false, false, []⟩])
   (.ret))
   (.skip)))
  (.seq (.ops 11 false [⟨some 50, .fa 0 (.t 5), none, false, false, [5]⟩,
   ⟨some 51, .ld none [] (.t 50), none, false, false, [50]⟩,
   ⟨some 3, .mv (.t 51), none, false, false, [51]⟩])
  (.seq (.ops 12 false [⟨some 52, .mv (.t 4), none, false, false, [4]⟩,
   ⟨some 53, .bin .add (.t 52) (.c (.int .i64 1)), none, false, false, [52]⟩,
   ⟨some 4, .mv (.t 53), none, false, false, [53]⟩])
  (.goto 0))))))))
def rs_plan_Right : List IRes := [.t 2]
theorem ok_plan_Right : fnOk Try.prog 11 ic_plan_Right rs_plan_Right 54 = true := by kernel_rfl

/-- tallyman/plan.Right$1 -/
def ic_plan_Right_1 : ICode :=
 .seq (.ops 0 false [⟨some 2, .box (.t 0), none, false, false, [0]⟩,
  ⟨some 3, .mv (.c (.bool false)), none, false, false, [3]⟩])
 (.seq (.ops 1 false [⟨some 4, .ld (some 5) [] (.t 1), none, false, false, [1]⟩,
  ⟨some 5, .ld (some 5) [] (.t 2), none, false, false, [2]⟩,
  ⟨some 6, .call (.c (.fn 13 [] [])) [.t 4, .t 5], none, false, false, [4, 5]⟩,
  ⟨some 3, .mv (.t 6), none, false, false, [6]⟩])
 (.ret))
def rs_plan_Right_1 : List IRes := [.t 3]
theorem ok_plan_Right_1 : fnOk Try.prog 35 ic_plan_Right_1 rs_plan_Right_1 7 = true := by kernel_rfl

/-- tallyman/plan.inside -/
def ic_plan_inside : ICode :=
 .seq (.ops 0 false [⟨some 2, .box (.t 0), none, false, false, [0]⟩,
  ⟨some 3, .box (.t 1), none, false, false, [1]⟩,
  ⟨some 4, .mv (.c (.bool false)), none, false, false, [4]⟩])
 (.seq (.ops 1 false [⟨some 5, .ld (some 2) [] (.t 3), none, false, false, []⟩,
  ⟨some 6, .fa 0 (.t 3), none, false, false, []⟩,
  ⟨some 7, .ld none [] (.t 6), none, false, false, [6]⟩,
  ⟨some 8, .fa 1 (.t 2), none, false, false, []⟩,
  ⟨some 9, .fa 0 (.t 8), none, false, false, [8]⟩,
  ⟨some 10, .ld none [] (.t 9), none, false, false, [9]⟩,
  ⟨some 11, .mx [.t 7, .t 10], none, false, false, [7, 10]⟩,
  ⟨some 12, .fa 3 (.t 2), none, false, false, []⟩,
  ⟨some 13, .fa 0 (.t 12), none, false, false, [12]⟩,
  ⟨some 14, .ld none [] (.t 13), none, false, false, [13]⟩,
  ⟨some 15, .mn [.t 11, .t 14], none, false, false, [11, 14]⟩,
  ⟨some 16, .fa 1 (.t 3), none, false, false, [3]⟩,
  ⟨some 17, .ld none [] (.t 16), none, false, false, [16]⟩,
  ⟨some 18, .fa 1 (.t 2), none, false, false, []⟩,
  ⟨some 19, .fa 1 (.t 18), none, false, false, [18]⟩,
  ⟨some 20, .ld none [] (.t 19), none, false, false, [19]⟩,
  ⟨some 21, .mx [.t 17, .t 20], none, false, false, [17, 20]⟩,
  ⟨some 22, .fa 3 (.t 2), none, false, false, []⟩,
  ⟨some 23, .fa 1 (.t 22), none, false, false, [22]⟩,
  ⟨some 24, .ld none [] (.t 23), none, false, false, [23]⟩,
  ⟨some 25, .mn [.t 21, .t 24], none, false, false, [21, 24]⟩,
  ⟨some 26, .build [.int .i64 0, .int .i64 0] [(0, 1, .t 15), (1, 1, .t 25)], none, false, false, [15, 25]⟩,
  ⟨some 27, .eqc false [false, false] (.t 5) (.t 26), none, false, false, [5, 26]⟩,
  ⟨some 28, .mv (.t 27), none, false, false, [27]⟩,
  ⟨some 29, .fa 1 (.t 2), (some (28, true)), true, false, []⟩,
  ⟨some 30, .fa 0 (.o 29), (some (28, true)), true, false, [29]⟩,
  ⟨some 31, .ld none [] (.o 30), (some (28, true)), true, false, [30]⟩,
  ⟨some 32, .fa 3 (.t 2), (some (28, true)), true, false, []⟩,
  ⟨some 33, .fa 0 (.o 32), (some (28, true)), true, false, [32]⟩,
  ⟨some 34, .ld none [] (.o 33), (some (28, true)), true, false, [33]⟩,
  ⟨some 35, .bin .leq (.o 31) (.o 34), (some (28, true)), true, false, [31, 34]⟩,
  ⟨some 36, .pick (.t 28) (.t 35) (.c (.bool false)), none, false, false, [28, 35]⟩,
  ⟨some 37, .mv (.t 36), none, false, false, [36]⟩,
  ⟨some 38, .fa 1 (.t 2), (some (37, true)), true, false, []⟩,
  ⟨some 39, .fa 1 (.o 38), (some (37, true)), true, false, [38]⟩,
  ⟨some 40, .ld none [] (.o 39), (some (37, true)), true, false, [39]⟩,
  ⟨some 41, .fa 3 (.t 2), (some (37, true)), true, false, [2]⟩,
  ⟨some 42, .fa 1 (.o 41), (some (37, true)), true, false, [41]⟩,
  ⟨some 43, .ld none [] (.o 42), (some (37, true)), true, false, [42]⟩,
  ⟨some 44, .bin .leq (.o 40) (.o 43), (some (37, true)), true, false, [40, 43]⟩,
  ⟨some 45, .pick (.t 37) (.t 44) (.c (.bool false)), none, false, false, [37, 44]⟩,
  ⟨some 4, .mv (.t 45), none, false, false, [45]⟩])
 (.ret))
def rs_plan_inside : List IRes := [.t 4]
theorem ok_plan_inside : fnOk Try.prog 31 ic_plan_inside rs_plan_inside 46 = true := by kernel_rfl

/-- tallyman/plan.near -/
def ic_plan_near : ICode :=
 .seq (.ops 0 false [⟨some 1, .box (.t 0), none, false, false, [0]⟩,
  ⟨some 2, .alloc [.int .i64 0, .int .i64 0], none, false, false, []⟩])
 (.seq (.ops 1 false [⟨some 3, .fa 0 (.t 1), none, false, false, []⟩,
  ⟨some 4, .ld none [] (.t 3), none, false, false, [3]⟩,
  ⟨some 5, .mn [.t 4, .c (.int .i64 1000)], none, false, false, [4]⟩,
  ⟨some 6, .mx [.t 5, .c (.int .i64 (-1000))], none, false, false, [5]⟩,
  ⟨some 7, .fa 1 (.t 1), none, false, false, [1]⟩,
  ⟨some 8, .ld none [] (.t 7), none, false, false, [7]⟩,
  ⟨some 9, .mn [.t 8, .c (.int .i64 1000)], none, false, false, [8]⟩,
  ⟨some 10, .mx [.t 9, .c (.int .i64 (-1000))], none, false, false, [9]⟩,
  ⟨some 11, .build [.int .i64 0, .int .i64 0] [(0, 1, .t 6), (1, 1, .t 10)], none, false, false, [6, 10]⟩,
  ⟨none, .st 2 (.t 2) (.t 11), none, false, false, [11]⟩])
 (.ret))
def rs_plan_near : List IRes := [.cell 2 (some 2)]
theorem ok_plan_near : fnOk Try.prog 51 ic_plan_near rs_plan_near 12 = true := by kernel_rfl

/-- tallyman/plan.wide -/
def ic_plan_wide : ICode :=
 .seq (.ops 0 false [⟨some 1, .box (.t 0), none, false, false, [0]⟩,
  ⟨some 2, .mv (.c (.bool false)), none, false, false, [2]⟩])
 (.seq (.ops 1 true [⟨some 3, .ld (some 2) [] (.t 1), none, false, false, []⟩,
  ⟨some 4, .call (.c (.fn 51 [] [])) [.t 3], none, false, false, [3]⟩,
  ⟨some 5, .ld (some 2) [] (.t 1), none, false, false, [1]⟩,
  ⟨some 6, .eqc false [false, false] (.t 4) (.t 5), none, false, false, [4, 5]⟩,
  ⟨some 2, .mv (.t 6), none, false, false, [6]⟩])
 (.ret))
def rs_plan_wide : List IRes := [.t 2]
theorem ok_plan_wide : fnOk Try.prog 33 ic_plan_wide rs_plan_wide 7 = true := by kernel_rfl

def rs_state_Clone : List IRes := [.cell 2 (some 8)]
def rs_state_Lease : List IRes := [.cell 4 (some 7), .t 5]
/-- tallyman/state.Lease$1 -/
def ic_state_Lease_1 : ICode :=
 .seq (.ops 0 false [⟨some 2, .box (.t 0), none, false, false, [0]⟩,
  ⟨some 3, .mv (.c (.bool false)), none, false, false, [3]⟩])
 (.seq (.ops 1 false [⟨some 4, .fa 0 (.t 2), none, false, false, [2]⟩,
  ⟨some 5, .ld none [] (.t 4), none, false, false, [4]⟩,
  ⟨some 6, .ld none [] (.t 1), none, false, false, [1]⟩,
  ⟨some 7, .bin .eql (.t 5) (.t 6), none, false, false, [5, 6]⟩,
  ⟨some 3, .mv (.t 7), none, false, false, [7]⟩])
 (.ret))
def rs_state_Lease_1 : List IRes := [.t 3]
/-- tallyman/state.Many -/
def ic_state_Many : ICode :=
 .seq (.ops 0 false [⟨some 2, .box (.t 0), none, false, false, [0]⟩,
  ⟨some 4, .mv (.c (.int .i64 0)), none, false, false, [4]⟩])
 (.seq (.ops 1 false [⟨some 5, .mv (.c (.int .i64 0)), none, false, false, []⟩])
 (.seq (.seq (.ops 2 false [⟨some 8, .fa 3 (.t 2), none, false, false, [2]⟩,
  ⟨some 9, .ld none [] (.t 8), none, false, false, [8]⟩,
  ⟨some 10, .len (.t 9), none, false, false, []⟩,
  ⟨some 11, .mv (.c (.int .i64 0)), none, false, false, []⟩])
 (.block 0 (.loop [1, 5, 9, 10, 11] (.seq (.ops 3 false [⟨some 12, .bin .lss (.t 11) (.t 10), none, false, false, []⟩])
   (.seq (.cond (.t 12)
    (.skip)
    (.exit 0))
   (.seq (.block 1 (.seq (.ops 4 false [⟨some 13, .ia 14 [.int .i64 0, .int .i64 0, .int .u64 0, .int .u64 0, .int .i64 0, .int .i64 0, .int .i64 0, .int .i64 0, .view [], .int .i64 0, .int .i64 0, .int .i64 0, .int .i64 0, .view []] (.t 9) (.t 11), none, false, false, []⟩,
     ⟨some 14, .ld (some 14) [.int .i64 0, .int .i64 0, .int .u64 0, .int .u64 0, .int .i64 0, .int .i64 0, .int .i64 0, .int .i64 0, .view [], .int .i64 0, .int .i64 0, .int .i64 0, .int .i64 0, .view []] (.t 13), none, false, false, [13]⟩,
     ⟨some 7, .alloc [.int .i64 0, .int .i64 0, .int .u64 0, .int .u64 0, .int .i64 0, .int .i64 0, .int .i64 0, .int .i64 0, .nils, .int .i64 0, .int .i64 0, .int .i64 0, .int .i64 0, .nils], none, false, false, []⟩,
     ⟨none, .st 14 (.t 7) (.t 14), none, false, false, [14]⟩])
    (.seq (.ops 5 false [⟨some 15, .fa 9 (.t 7), none, false, false, [7]⟩,
     ⟨some 16, .ld none [] (.t 15), none, false, false, [15]⟩,
     ⟨some 17, .mv (.t 1), none, false, false, []⟩,
     ⟨some 18, .bin .eql (.t 16) (.t 17), none, false, false, [16, 17]⟩])
    (.cond (.t 18)
     (.ops 6 false [⟨some 19, .mv (.t 5), none, false, false, [5]⟩,
      ⟨some 20, .bin .add (.t 19) (.c (.int .i64 1)), none, false, false, [19]⟩,
      ⟨some 5, .mv (.t 20), none, false, false, [20]⟩])
     (.skip)))))
   (.ops 7 false [⟨some 21, .bin .add (.t 11) (.c (.int .i64 1)), none, false, false, [11]⟩,
    ⟨some 11, .mv (.t 21), none, false, false, [21]⟩])))))))
 (.seq (.ops 8 false [⟨some 22, .mv (.t 5), none, false, false, [5]⟩,
  ⟨some 4, .mv (.t 22), none, false, false, [22]⟩])
 (.ret))))
def rs_state_Many : List IRes := [.t 4]
def rs_state_Same : List IRes := [.t 4]
def rs_state_Shape : List IRes := [.t 4]
def rs_state_Start : List IRes := [.cell 2 (some 8), .t 3]
def rs_state_Task : List IRes := [.cell 4 (some 14), .t 5]
/-- tallyman/state.Task$1 -/
def ic_state_Task_1 : ICode :=
 .seq (.ops 0 false [⟨some 2, .box (.t 0), none, false, false, [0]⟩,
  ⟨some 3, .mv (.c (.bool false)), none, false, false, [3]⟩])
 (.seq (.ops 1 false [⟨some 4, .fa 0 (.t 2), none, false, false, [2]⟩,
  ⟨some 5, .fa 0 (.t 4), none, false, false, [4]⟩,
  ⟨some 6, .ld none [] (.t 5), none, false, false, [5]⟩,
  ⟨some 7, .ld none [] (.t 1), none, false, false, [1]⟩,
  ⟨some 8, .bin .eql (.t 6) (.t 7), none, false, false, [6, 7]⟩,
  ⟨some 3, .mv (.t 8), none, false, false, [8]⟩])
 (.ret))
def rs_state_Task_1 : List IRes := [.t 3]
def rs_state_Unit : List IRes := [.cell 4 (some 3), .t 5]
/-- tallyman/state.Unit$1 -/
def ic_state_Unit_1 : ICode :=
 .seq (.ops 0 false [⟨some 2, .box (.t 0), none, false, false, [0]⟩,
  ⟨some 3, .mv (.c (.bool false)), none, false, false, [3]⟩])
 (.seq (.ops 1 false [⟨some 4, .fa 0 (.t 2), none, false, false, [2]⟩,
  ⟨some 5, .ld none [] (.t 4), none, false, false, [4]⟩,
  ⟨some 6, .ld none [] (.t 1), none, false, false, [1]⟩,
  ⟨some 7, .bin .eql (.t 5) (.t 6), none, false, false, [5, 6]⟩,
  ⟨some 3, .mv (.t 7), none, false, false, [7]⟩])
 (.ret))
def rs_state_Unit_1 : List IRes := [.t 3]
def rs_state_Worker : List IRes := [.cell 4 (some 3), .t 5]
/-- tallyman/state.Worker$1 -/
def ic_state_Worker_1 : ICode :=
 .seq (.ops 0 false [⟨some 2, .box (.t 0), none, false, false, [0]⟩,
  ⟨some 3, .mv (.c (.bool false)), none, false, false, [3]⟩])
 (.seq (.ops 1 false [⟨some 4, .fa 0 (.t 2), none, false, false, [2]⟩,
  ⟨some 5, .ld none [] (.t 4), none, false, false, [4]⟩,
  ⟨some 6, .ld none [] (.t 1), none, false, false, [1]⟩,
  ⟨some 7, .bin .eql (.t 5) (.t 6), none, false, false, [5, 6]⟩,
  ⟨some 3, .mv (.t 7), none, false, false, [7]⟩])
 (.ret))
def rs_state_Worker_1 : List IRes := [.t 3]
/-- tallyman/state.every(int) -/
def ic_state_every_int : ICode :=
 .seq (.ops 0 false [⟨some 4, .mv (.c (.bool false)), none, false, false, [4]⟩])
 (.back [0, 1, 5] (.seq (.ops 1 false [⟨some 5, .mv (.c (.int .i64 0)), none, false, false, []⟩])
 (.label 0)) 0
  (.seq (.seq (.ops 2 false [⟨some 6, .mv (.t 5), none, false, false, []⟩,
   ⟨some 7, .mv (.t 0), none, false, false, []⟩,
   ⟨some 8, .len (.t 7), none, false, false, [7]⟩,
   ⟨some 9, .bin .eql (.t 6) (.t 8), none, false, false, [6, 8]⟩])
  (.cond (.t 9)
   (.seq (.ops 3 false [⟨some 4, .mv (.c (.bool true)), none, false, false, []⟩])
   (.ret))
   (.skip)))
  (.seq (.seq (.ops 4 false [⟨some 10, .mv (.t 1), none, false, false, []⟩,
   ⟨some 11, .mv (.t 0), none, false, false, []⟩,
   ⟨some 12, .mv (.t 5), none, false, false, []⟩,
   ⟨some 13, .ia 1 [.int .i64 0] (.t 11) (.t 12), none, false, false, [11, 12]⟩,
   ⟨some 14, .ld none [.int .i64 0] (.t 13), none, false, false, [13]⟩,
   ⟨some 15, .call (.t 10) [.t 14], none, false, false, [10, 14]⟩,
   ⟨some 16, .not (.t 15), none, false, false, [15]⟩])
  (.cond (.t 16)
   (.seq (.ops 5 false [⟨some 4, .mv (.c (.bool false)), none, false, false, []⟩])
   (.ret))
   (.skip)))
  (.seq (.ops 6 false [⟨some 17, .mv (.t 5), none, false, false, [5]⟩,
   ⟨some 18, .bin .add (.t 17) (.c (.int .i64 1)), none, false, false, [17]⟩,
   ⟨some 5, .mv (.t 18), none, false, false, [18]⟩])
  (.goto 0)))))
def rs_state_every_int : List IRes := [.t 4]
/-- tallyman/state.every(tallyman/api.Lease) -/
def ic_state_every_api_Lease : ICode :=
 .seq (.ops 0 false [⟨some 4, .mv (.c (.bool false)), none, false, false, [4]⟩])
 (.back [0, 1, 5] (.seq (.ops 1 false [⟨some 5, .mv (.c (.int .i64 0)), none, false, false, []⟩])
 (.label 0)) 0
  (.seq (.seq (.ops 2 false [⟨some 6, .mv (.t 5), none, false, false, []⟩,
   ⟨some 7, .mv (.t 0), none, false, false, []⟩,
   ⟨some 8, .len (.t 7), none, false, false, [7]⟩,
   ⟨some 9, .bin .eql (.t 6) (.t 8), none, false, false, [6, 8]⟩])
  (.cond (.t 9)
   (.seq (.ops 3 false [⟨some 4, .mv (.c (.bool true)), none, false, false, []⟩])
   (.ret))
   (.skip)))
  (.seq (.seq (.ops 4 false [⟨some 10, .mv (.t 1), none, false, false, []⟩,
   ⟨some 11, .mv (.t 0), none, false, false, []⟩,
   ⟨some 12, .mv (.t 5), none, false, false, []⟩,
   ⟨some 13, .ia 7 [.int .i64 0, .int .i64 0, .int .i64 0, .int .i64 0, .int .i64 0, .int .i64 0, .view []] (.t 11) (.t 12), none, false, false, [11, 12]⟩,
   ⟨some 14, .ld (some 7) [.int .i64 0, .int .i64 0, .int .i64 0, .int .i64 0, .int .i64 0, .int .i64 0, .view []] (.t 13), none, false, false, [13]⟩,
   ⟨some 15, .call (.t 10) [.t 14], none, false, false, [10, 14]⟩,
   ⟨some 16, .not (.t 15), none, false, false, [15]⟩])
  (.cond (.t 16)
   (.seq (.ops 5 false [⟨some 4, .mv (.c (.bool false)), none, false, false, []⟩])
   (.ret))
   (.skip)))
  (.seq (.ops 6 false [⟨some 17, .mv (.t 5), none, false, false, [5]⟩,
   ⟨some 18, .bin .add (.t 17) (.c (.int .i64 1)), none, false, false, [17]⟩,
   ⟨some 5, .mv (.t 18), none, false, false, [18]⟩])
  (.goto 0)))))
def rs_state_every_api_Lease : List IRes := [.t 4]
/-- tallyman/state.every(tallyman/api.Lock) -/
def ic_state_every_api_Lock : ICode :=
 .seq (.ops 0 false [⟨some 4, .mv (.c (.bool false)), none, false, false, [4]⟩])
 (.back [0, 1, 5] (.seq (.ops 1 false [⟨some 5, .mv (.c (.int .i64 0)), none, false, false, []⟩])
 (.label 0)) 0
  (.seq (.seq (.ops 2 false [⟨some 6, .mv (.t 5), none, false, false, []⟩,
   ⟨some 7, .mv (.t 0), none, false, false, []⟩,
   ⟨some 8, .len (.t 7), none, false, false, [7]⟩,
   ⟨some 9, .bin .eql (.t 6) (.t 8), none, false, false, [6, 8]⟩])
  (.cond (.t 9)
   (.seq (.ops 3 false [⟨some 4, .mv (.c (.bool true)), none, false, false, []⟩])
   (.ret))
   (.skip)))
  (.seq (.seq (.ops 4 false [⟨some 10, .mv (.t 1), none, false, false, []⟩,
   ⟨some 11, .mv (.t 0), none, false, false, []⟩,
   ⟨some 12, .mv (.t 5), none, false, false, []⟩,
   ⟨some 13, .ia 3 [.int .i64 0, .int .i64 0, .view []] (.t 11) (.t 12), none, false, false, [11, 12]⟩,
   ⟨some 14, .ld (some 3) [.int .i64 0, .int .i64 0, .view []] (.t 13), none, false, false, [13]⟩,
   ⟨some 15, .call (.t 10) [.t 14], none, false, false, [10, 14]⟩,
   ⟨some 16, .not (.t 15), none, false, false, [15]⟩])
  (.cond (.t 16)
   (.seq (.ops 5 false [⟨some 4, .mv (.c (.bool false)), none, false, false, []⟩])
   (.ret))
   (.skip)))
  (.seq (.ops 6 false [⟨some 17, .mv (.t 5), none, false, false, [5]⟩,
   ⟨some 18, .bin .add (.t 17) (.c (.int .i64 1)), none, false, false, [17]⟩,
   ⟨some 5, .mv (.t 18), none, false, false, [18]⟩])
  (.goto 0)))))
def rs_state_every_api_Lock : List IRes := [.t 4]
/-- tallyman/state.every(tallyman/api.Task) -/
def ic_state_every_api_Task : ICode :=
 .seq (.ops 0 false [⟨some 4, .mv (.c (.bool false)), none, false, false, [4]⟩])
 (.back [0, 1, 5] (.seq (.ops 1 false [⟨some 5, .mv (.c (.int .i64 0)), none, false, false, []⟩])
 (.label 0)) 0
  (.seq (.seq (.ops 2 false [⟨some 6, .mv (.t 5), none, false, false, []⟩,
   ⟨some 7, .mv (.t 0), none, false, false, []⟩,
   ⟨some 8, .len (.t 7), none, false, false, [7]⟩,
   ⟨some 9, .bin .eql (.t 6) (.t 8), none, false, false, [6, 8]⟩])
  (.cond (.t 9)
   (.seq (.ops 3 false [⟨some 4, .mv (.c (.bool true)), none, false, false, []⟩])
   (.ret))
   (.skip)))
  (.seq (.seq (.ops 4 false [⟨some 10, .mv (.t 1), none, false, false, []⟩,
   ⟨some 11, .mv (.t 0), none, false, false, []⟩,
   ⟨some 12, .mv (.t 5), none, false, false, []⟩,
   ⟨some 13, .ia 14 [.int .i64 0, .int .i64 0, .int .u64 0, .int .u64 0, .int .i64 0, .int .i64 0, .int .i64 0, .int .i64 0, .view [], .int .i64 0, .int .i64 0, .int .i64 0, .int .i64 0, .view []] (.t 11) (.t 12), none, false, false, [11, 12]⟩,
   ⟨some 14, .ld (some 14) [.int .i64 0, .int .i64 0, .int .u64 0, .int .u64 0, .int .i64 0, .int .i64 0, .int .i64 0, .int .i64 0, .view [], .int .i64 0, .int .i64 0, .int .i64 0, .int .i64 0, .view []] (.t 13), none, false, false, [13]⟩,
   ⟨some 15, .call (.t 10) [.t 14], none, false, false, [10, 14]⟩,
   ⟨some 16, .not (.t 15), none, false, false, [15]⟩])
  (.cond (.t 16)
   (.seq (.ops 5 false [⟨some 4, .mv (.c (.bool false)), none, false, false, []⟩])
   (.ret))
   (.skip)))
  (.seq (.ops 6 false [⟨some 17, .mv (.t 5), none, false, false, [5]⟩,
   ⟨some 18, .bin .add (.t 17) (.c (.int .i64 1)), none, false, false, [17]⟩,
   ⟨some 5, .mv (.t 18), none, false, false, [18]⟩])
  (.goto 0)))))
def rs_state_every_api_Task : List IRes := [.t 4]
def rs_state_find_api_Hand : List IRes := [.cell 4 (some 3), .t 5]
def rs_state_find_api_Lease : List IRes := [.cell 4 (some 7), .t 5]
def rs_state_find_api_Task : List IRes := [.cell 4 (some 14), .t 5]
def rs_state_fits : List IRes := [.t 4]
/-- tallyman/state.fits$1 -/
def ic_state_fits_1 : ICode :=
 .seq (.ops 0 false [⟨some 1, .box (.t 0), none, false, false, [0]⟩,
  ⟨some 2, .mv (.c (.bool false)), none, false, false, [2]⟩])
 (.seq (.ops 1 false [⟨some 3, .fa 13 (.t 1), none, false, false, [1]⟩,
  ⟨some 4, .ld none [] (.t 3), none, false, false, [3]⟩,
  ⟨some 5, .len (.t 4), none, false, false, [4]⟩,
  ⟨some 6, .bin .leq (.t 5) (.c (.int .i64 16)), none, false, false, [5]⟩,
  ⟨some 2, .mv (.t 6), none, false, false, [6]⟩])
 (.ret))
def rs_state_fits_1 : List IRes := [.t 2]
/-- tallyman/state.fits$2 -/
def ic_state_fits_2 : ICode :=
 .seq (.ops 0 false [⟨some 2, .box (.t 0), none, false, false, [0]⟩,
  ⟨some 3, .mv (.c (.bool false)), none, false, false, [3]⟩])
 (.seq (.ops 1 false [⟨some 4, .fa 6 (.t 2), none, false, false, [2]⟩,
  ⟨some 5, .ld none [] (.t 4), none, false, false, [4]⟩,
  ⟨some 6, .len (.t 5), none, false, false, [5]⟩,
  ⟨some 7, .fa 7 (.t 1), none, false, false, [1]⟩,
  ⟨some 8, .ld none [] (.t 7), none, false, false, [7]⟩,
  ⟨some 9, .len (.t 8), none, false, false, [8]⟩,
  ⟨some 10, .bin .leq (.t 6) (.t 9), none, false, false, [6, 9]⟩,
  ⟨some 3, .mv (.t 10), none, false, false, [10]⟩])
 (.ret))
def rs_state_fits_2 : List IRes := [.t 3]
/-- tallyman/state.fits$3 -/
def ic_state_fits_3 : ICode :=
 .seq (.ops 0 false [⟨some 1, .box (.t 0), none, false, false, [0]⟩,
  ⟨some 2, .mv (.c (.bool false)), none, false, false, [2]⟩])
 (.seq (.ops 1 false [⟨some 3, .fa 2 (.t 1), none, false, false, [1]⟩,
  ⟨some 4, .ld none [] (.t 3), none, false, false, [3]⟩,
  ⟨some 5, .len (.t 4), none, false, false, [4]⟩,
  ⟨some 6, .bin .leq (.t 5) (.c (.int .i64 64)), none, false, false, [5]⟩,
  ⟨some 2, .mv (.t 6), none, false, false, [6]⟩])
 (.ret))
def rs_state_fits_3 : List IRes := [.t 2]
def rs_state_from : List IRes := [.t 4]
/-- tallyman/state.from$1 -/
def ic_state_from_1 : ICode :=
 .seq (.ops 0 false [⟨some 4, .mv (.c (.bool false)), none, false, false, [4]⟩])
 (.seq (.ops 1 false [⟨some 5, .mv (.t 0), none, false, false, []⟩,
  ⟨some 6, .ld none [] (.t 1), none, false, false, [1]⟩,
  ⟨some 7, .bin .geq (.t 5) (.t 6), none, false, false, [5, 6]⟩,
  ⟨some 8, .mv (.t 7), none, false, false, [7]⟩,
  ⟨some 9, .mv (.t 0), (some (8, true)), true, false, [0]⟩,
  ⟨some 10, .ld none [] (.t 2), (some (8, true)), true, false, [2]⟩,
  ⟨some 11, .bin .leq (.o 9) (.o 10), (some (8, true)), true, false, [9, 10]⟩,
  ⟨some 12, .pick (.t 8) (.t 11) (.c (.bool false)), none, false, false, [8, 11]⟩,
  ⟨some 4, .mv (.t 12), none, false, false, [12]⟩])
 (.ret))
def rs_state_from_1 : List IRes := [.t 4]
/-- tallyman/state.hand -/
def ic_state_hand : ICode :=
 .seq (.ops 0 false [⟨some 1, .box (.t 0), none, false, false, [0]⟩,
  ⟨some 2, .mv (.c (.int .i64 0)), none, false, false, [2]⟩])
 (.seq (.ops 1 false [⟨some 3, .fa 0 (.t 1), none, false, false, [1]⟩,
  ⟨some 4, .ld none [] (.t 3), none, false, false, [3]⟩,
  ⟨some 2, .mv (.t 4), none, false, false, [4]⟩])
 (.ret))
def rs_state_hand : List IRes := [.t 2]
/-- tallyman/state.numbers(tallyman/api.Aisle) -/
def ic_state_numbers_api_Aisle : ICode :=
 .seq (.ops 0 false [⟨some 4, .mv (.c (.nils)), none, false, false, [4]⟩])
 (.seq (.ops 1 false [⟨some 5, .mv (.c (.nils)), none, false, false, []⟩])
 (.seq (.seq (.ops 2 false [⟨some 8, .mv (.t 0), none, false, false, [0]⟩,
  ⟨some 9, .len (.t 8), none, false, false, []⟩,
  ⟨some 10, .mv (.c (.int .i64 0)), none, false, false, []⟩])
 (.block 0 (.loop [1, 5, 8, 9, 10] (.seq (.ops 3 false [⟨some 11, .bin .lss (.t 10) (.t 9), none, false, false, []⟩])
   (.seq (.cond (.t 11)
    (.skip)
    (.exit 0))
   (.seq (.block 1 (.seq (.ops 4 false [⟨some 12, .ia 5 [.int .i64 0, .int .i64 0, .int .i64 0, .int .i64 0, .int .i64 0] (.t 8) (.t 10), none, false, false, []⟩,
     ⟨some 13, .ld (some 5) [.int .i64 0, .int .i64 0, .int .i64 0, .int .i64 0, .int .i64 0] (.t 12), none, false, false, [12]⟩,
     ⟨some 7, .alloc [.int .i64 0, .int .i64 0, .int .i64 0, .int .i64 0, .int .i64 0], none, false, false, []⟩,
     ⟨none, .st 5 (.t 7) (.t 13), none, false, false, [13]⟩])
    (.ops 5 false [⟨some 14, .mv (.t 5), none, false, false, [5]⟩,
     ⟨some 15, .mv (.t 1), none, false, false, []⟩,
     ⟨some 16, .ld (some 5) [] (.t 7), none, false, false, [7]⟩,
     ⟨some 17, .call (.t 15) [.t 16], none, false, false, [15, 16]⟩,
     ⟨some 18, .rowView 1 [.t 17], none, false, false, [17]⟩,
     ⟨some 19, .app 1 (.t 14) (.t 18), none, false, false, [14, 18]⟩,
     ⟨some 5, .mv (.t 19), none, false, false, [19]⟩])))
   (.ops 6 false [⟨some 20, .bin .add (.t 10) (.c (.int .i64 1)), none, false, false, [10]⟩,
    ⟨some 10, .mv (.t 20), none, false, false, [20]⟩])))))))
 (.seq (.ops 7 false [⟨some 21, .mv (.t 5), none, false, false, [5]⟩,
  ⟨some 4, .mv (.t 21), none, false, false, [21]⟩])
 (.ret))))
def rs_state_numbers_api_Aisle : List IRes := [.t 4]
/-- tallyman/state.numbers(tallyman/api.Hand) -/
def ic_state_numbers_api_Hand : ICode :=
 .seq (.ops 0 false [⟨some 4, .mv (.c (.nils)), none, false, false, [4]⟩])
 (.seq (.ops 1 false [⟨some 5, .mv (.c (.nils)), none, false, false, []⟩])
 (.seq (.seq (.ops 2 false [⟨some 8, .mv (.t 0), none, false, false, [0]⟩,
  ⟨some 9, .len (.t 8), none, false, false, []⟩,
  ⟨some 10, .mv (.c (.int .i64 0)), none, false, false, []⟩])
 (.block 0 (.loop [1, 5, 8, 9, 10] (.seq (.ops 3 false [⟨some 11, .bin .lss (.t 10) (.t 9), none, false, false, []⟩])
   (.seq (.cond (.t 11)
    (.skip)
    (.exit 0))
   (.seq (.block 1 (.seq (.ops 4 false [⟨some 12, .ia 3 [.int .i64 0, .int .u64 0, .bool false] (.t 8) (.t 10), none, false, false, []⟩,
     ⟨some 13, .ld (some 3) [.int .i64 0, .int .u64 0, .bool false] (.t 12), none, false, false, [12]⟩,
     ⟨some 7, .alloc [.int .i64 0, .int .u64 0, .bool false], none, false, false, []⟩,
     ⟨none, .st 3 (.t 7) (.t 13), none, false, false, [13]⟩])
    (.ops 5 false [⟨some 14, .mv (.t 5), none, false, false, [5]⟩,
     ⟨some 15, .mv (.t 1), none, false, false, []⟩,
     ⟨some 16, .ld (some 3) [] (.t 7), none, false, false, [7]⟩,
     ⟨some 17, .call (.t 15) [.t 16], none, false, false, [15, 16]⟩,
     ⟨some 18, .rowView 1 [.t 17], none, false, false, [17]⟩,
     ⟨some 19, .app 1 (.t 14) (.t 18), none, false, false, [14, 18]⟩,
     ⟨some 5, .mv (.t 19), none, false, false, [19]⟩])))
   (.ops 6 false [⟨some 20, .bin .add (.t 10) (.c (.int .i64 1)), none, false, false, [10]⟩,
    ⟨some 10, .mv (.t 20), none, false, false, [20]⟩])))))))
 (.seq (.ops 7 false [⟨some 21, .mv (.t 5), none, false, false, [5]⟩,
  ⟨some 4, .mv (.t 21), none, false, false, [21]⟩])
 (.ret))))
def rs_state_numbers_api_Hand : List IRes := [.t 4]
/-- tallyman/state.numbers(tallyman/api.Lease) -/
def ic_state_numbers_api_Lease : ICode :=
 .seq (.ops 0 false [⟨some 4, .mv (.c (.nils)), none, false, false, [4]⟩])
 (.seq (.ops 1 false [⟨some 5, .mv (.c (.nils)), none, false, false, []⟩])
 (.seq (.seq (.ops 2 false [⟨some 8, .mv (.t 0), none, false, false, [0]⟩,
  ⟨some 9, .len (.t 8), none, false, false, []⟩,
  ⟨some 10, .mv (.c (.int .i64 0)), none, false, false, []⟩])
 (.block 0 (.loop [1, 5, 8, 9, 10] (.seq (.ops 3 false [⟨some 11, .bin .lss (.t 10) (.t 9), none, false, false, []⟩])
   (.seq (.cond (.t 11)
    (.skip)
    (.exit 0))
   (.seq (.block 1 (.seq (.ops 4 false [⟨some 12, .ia 7 [.int .i64 0, .int .i64 0, .int .i64 0, .int .i64 0, .int .i64 0, .int .i64 0, .view []] (.t 8) (.t 10), none, false, false, []⟩,
     ⟨some 13, .ld (some 7) [.int .i64 0, .int .i64 0, .int .i64 0, .int .i64 0, .int .i64 0, .int .i64 0, .view []] (.t 12), none, false, false, [12]⟩,
     ⟨some 7, .alloc [.int .i64 0, .int .i64 0, .int .i64 0, .int .i64 0, .int .i64 0, .int .i64 0, .nils], none, false, false, []⟩,
     ⟨none, .st 7 (.t 7) (.t 13), none, false, false, [13]⟩])
    (.ops 5 false [⟨some 14, .mv (.t 5), none, false, false, [5]⟩,
     ⟨some 15, .mv (.t 1), none, false, false, []⟩,
     ⟨some 16, .ld (some 7) [] (.t 7), none, false, false, [7]⟩,
     ⟨some 17, .call (.t 15) [.t 16], none, false, false, [15, 16]⟩,
     ⟨some 18, .rowView 1 [.t 17], none, false, false, [17]⟩,
     ⟨some 19, .app 1 (.t 14) (.t 18), none, false, false, [14, 18]⟩,
     ⟨some 5, .mv (.t 19), none, false, false, [19]⟩])))
   (.ops 6 false [⟨some 20, .bin .add (.t 10) (.c (.int .i64 1)), none, false, false, [10]⟩,
    ⟨some 10, .mv (.t 20), none, false, false, [20]⟩])))))))
 (.seq (.ops 7 false [⟨some 21, .mv (.t 5), none, false, false, [5]⟩,
  ⟨some 4, .mv (.t 21), none, false, false, [21]⟩])
 (.ret))))
def rs_state_numbers_api_Lease : List IRes := [.t 4]
/-- tallyman/state.numbers(tallyman/api.Lock) -/
def ic_state_numbers_api_Lock : ICode :=
 .seq (.ops 0 false [⟨some 4, .mv (.c (.nils)), none, false, false, [4]⟩])
 (.seq (.ops 1 false [⟨some 5, .mv (.c (.nils)), none, false, false, []⟩])
 (.seq (.seq (.ops 2 false [⟨some 8, .mv (.t 0), none, false, false, [0]⟩,
  ⟨some 9, .len (.t 8), none, false, false, []⟩,
  ⟨some 10, .mv (.c (.int .i64 0)), none, false, false, []⟩])
 (.block 0 (.loop [1, 5, 8, 9, 10] (.seq (.ops 3 false [⟨some 11, .bin .lss (.t 10) (.t 9), none, false, false, []⟩])
   (.seq (.cond (.t 11)
    (.skip)
    (.exit 0))
   (.seq (.block 1 (.seq (.ops 4 false [⟨some 12, .ia 3 [.int .i64 0, .int .i64 0, .view []] (.t 8) (.t 10), none, false, false, []⟩,
     ⟨some 13, .ld (some 3) [.int .i64 0, .int .i64 0, .view []] (.t 12), none, false, false, [12]⟩,
     ⟨some 7, .alloc [.int .i64 0, .int .i64 0, .nils], none, false, false, []⟩,
     ⟨none, .st 3 (.t 7) (.t 13), none, false, false, [13]⟩])
    (.ops 5 false [⟨some 14, .mv (.t 5), none, false, false, [5]⟩,
     ⟨some 15, .mv (.t 1), none, false, false, []⟩,
     ⟨some 16, .ld (some 3) [] (.t 7), none, false, false, [7]⟩,
     ⟨some 17, .call (.t 15) [.t 16], none, false, false, [15, 16]⟩,
     ⟨some 18, .rowView 1 [.t 17], none, false, false, [17]⟩,
     ⟨some 19, .app 1 (.t 14) (.t 18), none, false, false, [14, 18]⟩,
     ⟨some 5, .mv (.t 19), none, false, false, [19]⟩])))
   (.ops 6 false [⟨some 20, .bin .add (.t 10) (.c (.int .i64 1)), none, false, false, [10]⟩,
    ⟨some 10, .mv (.t 20), none, false, false, [20]⟩])))))))
 (.seq (.ops 7 false [⟨some 21, .mv (.t 5), none, false, false, [5]⟩,
  ⟨some 4, .mv (.t 21), none, false, false, [21]⟩])
 (.ret))))
def rs_state_numbers_api_Lock : List IRes := [.t 4]
/-- tallyman/state.numbers(tallyman/api.Task) -/
def ic_state_numbers_api_Task : ICode :=
 .seq (.ops 0 false [⟨some 4, .mv (.c (.nils)), none, false, false, [4]⟩])
 (.seq (.ops 1 false [⟨some 5, .mv (.c (.nils)), none, false, false, []⟩])
 (.seq (.seq (.ops 2 false [⟨some 8, .mv (.t 0), none, false, false, [0]⟩,
  ⟨some 9, .len (.t 8), none, false, false, []⟩,
  ⟨some 10, .mv (.c (.int .i64 0)), none, false, false, []⟩])
 (.block 0 (.loop [1, 5, 8, 9, 10] (.seq (.ops 3 false [⟨some 11, .bin .lss (.t 10) (.t 9), none, false, false, []⟩])
   (.seq (.cond (.t 11)
    (.skip)
    (.exit 0))
   (.seq (.block 1 (.seq (.ops 4 false [⟨some 12, .ia 14 [.int .i64 0, .int .i64 0, .int .u64 0, .int .u64 0, .int .i64 0, .int .i64 0, .int .i64 0, .int .i64 0, .view [], .int .i64 0, .int .i64 0, .int .i64 0, .int .i64 0, .view []] (.t 8) (.t 10), none, false, false, []⟩,
     ⟨some 13, .ld (some 14) [.int .i64 0, .int .i64 0, .int .u64 0, .int .u64 0, .int .i64 0, .int .i64 0, .int .i64 0, .int .i64 0, .view [], .int .i64 0, .int .i64 0, .int .i64 0, .int .i64 0, .view []] (.t 12), none, false, false, [12]⟩,
     ⟨some 7, .alloc [.int .i64 0, .int .i64 0, .int .u64 0, .int .u64 0, .int .i64 0, .int .i64 0, .int .i64 0, .int .i64 0, .nils, .int .i64 0, .int .i64 0, .int .i64 0, .int .i64 0, .nils], none, false, false, []⟩,
     ⟨none, .st 14 (.t 7) (.t 13), none, false, false, [13]⟩])
    (.ops 5 false [⟨some 14, .mv (.t 5), none, false, false, [5]⟩,
     ⟨some 15, .mv (.t 1), none, false, false, []⟩,
     ⟨some 16, .ld (some 14) [] (.t 7), none, false, false, [7]⟩,
     ⟨some 17, .call (.t 15) [.t 16], none, false, false, [15, 16]⟩,
     ⟨some 18, .rowView 1 [.t 17], none, false, false, [17]⟩,
     ⟨some 19, .app 1 (.t 14) (.t 18), none, false, false, [14, 18]⟩,
     ⟨some 5, .mv (.t 19), none, false, false, [19]⟩])))
   (.ops 6 false [⟨some 20, .bin .add (.t 10) (.c (.int .i64 1)), none, false, false, [10]⟩,
    ⟨some 10, .mv (.t 20), none, false, false, [20]⟩])))))))
 (.seq (.ops 7 false [⟨some 21, .mv (.t 5), none, false, false, [5]⟩,
  ⟨some 4, .mv (.t 21), none, false, false, [21]⟩])
 (.ret))))
def rs_state_numbers_api_Task : List IRes := [.t 4]
def rs_state_orders : List IRes := [.t 4]
/-- tallyman/state.orders$1 -/
def ic_state_orders_1 : ICode :=
 .seq (.ops 0 false [⟨some 1, .box (.t 0), none, false, false, [0]⟩,
  ⟨some 2, .mv (.c (.int .i64 0)), none, false, false, [2]⟩])
 (.seq (.ops 1 false [⟨some 3, .fa 0 (.t 1), none, false, false, [1]⟩,
  ⟨some 4, .fa 0 (.t 3), none, false, false, [3]⟩,
  ⟨some 5, .ld none [] (.t 4), none, false, false, [4]⟩,
  ⟨some 2, .mv (.t 5), none, false, false, [5]⟩])
 (.ret))
def rs_state_orders_1 : List IRes := [.t 2]
/-- tallyman/state.orders$2 -/
def ic_state_orders_2 : ICode :=
 .seq (.ops 0 false [⟨some 1, .box (.t 0), none, false, false, [0]⟩,
  ⟨some 2, .mv (.c (.int .i64 0)), none, false, false, [2]⟩])
 (.seq (.ops 1 false [⟨some 3, .fa 0 (.t 1), none, false, false, [1]⟩,
  ⟨some 4, .ld none [] (.t 3), none, false, false, [3]⟩,
  ⟨some 2, .mv (.t 4), none, false, false, [4]⟩])
 (.ret))
def rs_state_orders_2 : List IRes := [.t 2]
def rs_state_orders_3 : List IRes := [.t 2]
def rs_state_orders_4 : List IRes := [.t 2]
/-- tallyman/state.orders$5 -/
def ic_state_orders_5 : ICode :=
 .seq (.ops 0 false [⟨some 1, .box (.t 0), none, false, false, [0]⟩,
  ⟨some 2, .mv (.c (.int .i64 0)), none, false, false, [2]⟩])
 (.seq (.ops 1 false [⟨some 3, .fa 0 (.t 1), none, false, false, [1]⟩,
  ⟨some 4, .ld none [] (.t 3), none, false, false, [3]⟩,
  ⟨some 2, .mv (.t 4), none, false, false, [4]⟩])
 (.ret))
def rs_state_orders_5 : List IRes := [.t 2]
/-- tallyman/state.orders$6 -/
def ic_state_orders_6 : ICode :=
 .seq (.ops 0 false [⟨some 1, .box (.t 0), none, false, false, [0]⟩,
  ⟨some 2, .mv (.c (.int .i64 0)), none, false, false, [2]⟩])
 (.seq (.ops 1 false [⟨some 3, .fa 0 (.t 1), none, false, false, [1]⟩,
  ⟨some 4, .ld none [] (.t 3), none, false, false, [3]⟩,
  ⟨some 2, .mv (.t 4), none, false, false, [4]⟩])
 (.ret))
def rs_state_orders_6 : List IRes := [.t 2]
def rs_state_sameLease : List IRes := [.t 4]
def rs_state_sameLock : List IRes := [.t 4]
def rs_state_sameTask : List IRes := [.t 4]
def rs_state_within : List IRes := [.t 4]
/-- tallyman/state.within$1 -/
def ic_state_within_1 : ICode :=
 .seq (.ops 0 false [⟨some 1, .box (.t 0), none, false, false, [0]⟩,
  ⟨some 2, .mv (.c (.int .i64 0)), none, false, false, [2]⟩])
 (.seq (.ops 1 false [⟨some 3, .fa 10 (.t 1), none, false, false, [1]⟩,
  ⟨some 4, .ld none [] (.t 3), none, false, false, [3]⟩,
  ⟨some 2, .mv (.t 4), none, false, false, [4]⟩])
 (.ret))
def rs_state_within_1 : List IRes := [.t 2]
/-- tallyman/state.within$2 -/
def ic_state_within_2 : ICode :=
 .seq (.ops 0 false [⟨some 2, .mv (.c (.bool false)), none, false, false, [2]⟩])
 (.seq (.ops 1 false [⟨some 3, .mv (.t 0), none, false, false, [0]⟩,
  ⟨some 4, .bin .neq (.t 3) (.c (.int .i64 0)), none, false, false, [3]⟩,
  ⟨some 2, .mv (.t 4), none, false, false, [4]⟩])
 (.ret))
def rs_state_within_2 : List IRes := [.t 2]
def rs_state_within_3 : List IRes := [.t 5]
def rs_state_within_4 : List IRes := [.t 4]
def rs_state_within_5 : List IRes := [.t 4]
def rs_l30_alive : List IRes := [.t 0]
/-- tallyman/tallymanref07.Has -/
def ic_r07_Has : ICode :=
 .seq (.ops 0 false [⟨some 2, .box (.t 0), none, false, false, [0]⟩,
  ⟨some 3, .box (.t 1), none, false, false, [1]⟩,
  ⟨some 4, .mv (.c (.bool false)), none, false, false, [4]⟩])
 (.seq (.ops 1 false [⟨some 5, .fa 1 (.t 2), none, false, false, []⟩,
  ⟨some 6, .fa 0 (.t 5), none, false, false, [5]⟩,
  ⟨some 7, .ld none [] (.t 6), none, false, false, [6]⟩,
  ⟨some 8, .fa 0 (.t 3), none, false, false, []⟩,
  ⟨some 9, .ld none [] (.t 8), none, false, false, [8]⟩,
  ⟨some 10, .bin .leq (.t 7) (.t 9), none, false, false, [7, 9]⟩,
  ⟨some 11, .mv (.t 10), none, false, false, [10]⟩,
  ⟨some 12, .fa 0 (.t 3), (some (11, true)), true, false, []⟩,
  ⟨some 13, .ld none [] (.o 12), (some (11, true)), true, false, [12]⟩,
  ⟨some 14, .fa 3 (.t 2), (some (11, true)), true, false, []⟩,
  ⟨some 15, .fa 0 (.o 14), (some (11, true)), true, false, [14]⟩,
  ⟨some 16, .ld none [] (.o 15), (some (11, true)), true, false, [15]⟩,
  ⟨some 17, .bin .leq (.o 13) (.o 16), (some (11, true)), true, false, [13, 16]⟩,
  ⟨some 18, .pick (.t 11) (.t 17) (.c (.bool false)), none, false, false, [11, 17]⟩,
  ⟨some 19, .mv (.t 18), none, false, false, [18]⟩,
  ⟨some 20, .fa 1 (.t 2), (some (19, true)), true, false, []⟩,
  ⟨some 21, .fa 1 (.o 20), (some (19, true)), true, false, [20]⟩,
  ⟨some 22, .ld none [] (.o 21), (some (19, true)), true, false, [21]⟩,
  ⟨some 23, .fa 1 (.t 3), (some (19, true)), true, false, []⟩,
  ⟨some 24, .ld none [] (.o 23), (some (19, true)), true, false, [23]⟩,
  ⟨some 25, .bin .leq (.o 22) (.o 24), (some (19, true)), true, false, [22, 24]⟩,
  ⟨some 26, .pick (.t 19) (.t 25) (.c (.bool false)), none, false, false, [19, 25]⟩,
  ⟨some 27, .mv (.t 26), none, false, false, [26]⟩,
  ⟨some 28, .fa 1 (.t 3), (some (27, true)), true, false, [3]⟩,
  ⟨some 29, .ld none [] (.o 28), (some (27, true)), true, false, [28]⟩,
  ⟨some 30, .fa 3 (.t 2), (some (27, true)), true, false, [2]⟩,
  ⟨some 31, .fa 1 (.o 30), (some (27, true)), true, false, [30]⟩,
  ⟨some 32, .ld none [] (.o 31), (some (27, true)), true, false, [31]⟩,
  ⟨some 33, .bin .leq (.o 29) (.o 32), (some (27, true)), true, false, [29, 32]⟩,
  ⟨some 34, .pick (.t 27) (.t 33) (.c (.bool false)), none, false, false, [27, 33]⟩,
  ⟨some 4, .mv (.t 34), none, false, false, [34]⟩])
 (.ret))
def rs_r07_Has : List IRes := [.t 4]
theorem ok_r07_Has : fnOk Try.prog 32 ic_r07_Has rs_r07_Has 35 = true := by kernel_rfl

/-- tallyman/tallymanref07.Meet -/
def ic_r07_Meet : ICode :=
 .seq (.ops 0 false [⟨some 2, .box (.t 0), none, false, false, [0]⟩,
  ⟨some 3, .box (.t 1), none, false, false, [1]⟩,
  ⟨some 4, .mv (.c (.bool false)), none, false, false, [4]⟩])
 (.seq (.ops 1 false [⟨some 6, .fa 1 (.t 2), none, false, false, []⟩,
  ⟨some 7, .fa 0 (.t 6), none, false, false, [6]⟩,
  ⟨some 8, .ld none [] (.t 7), none, false, false, [7]⟩,
  ⟨some 9, .fa 1 (.t 3), none, false, false, []⟩,
  ⟨some 10, .fa 0 (.t 9), none, false, false, [9]⟩,
  ⟨some 11, .ld none [] (.t 10), none, false, false, [10]⟩,
  ⟨some 12, .mx [.t 8, .t 11], none, false, false, [8, 11]⟩,
  ⟨some 13, .fa 1 (.t 2), none, false, false, []⟩,
  ⟨some 14, .fa 1 (.t 13), none, false, false, [13]⟩,
  ⟨some 15, .ld none [] (.t 14), none, false, false, [14]⟩,
  ⟨some 16, .fa 1 (.t 3), none, false, false, []⟩,
  ⟨some 17, .fa 1 (.t 16), none, false, false, [16]⟩,
  ⟨some 18, .ld none [] (.t 17), none, false, false, [17]⟩,
  ⟨some 19, .mx [.t 15, .t 18], none, false, false, [15, 18]⟩,
  ⟨some 20, .build [.int .i64 0, .int .i64 0] [(0, 1, .t 12), (1, 1, .t 19)], none, false, false, [12, 19]⟩,
  ⟨some 5, .alloc [.int .i64 0, .int .i64 0], none, false, false, []⟩,
  ⟨none, .st 2 (.t 5) (.t 20), none, false, false, [20]⟩])
 (.seq (.ops 2 false [⟨some 21, .ld (some 5) [] (.t 2), none, false, false, [2]⟩,
  ⟨some 22, .ld (some 2) [] (.t 5), none, false, false, []⟩,
  ⟨some 23, .call (.c (.fn 32 [] [])) [.t 21, .t 22], none, false, false, [21, 22]⟩,
  ⟨some 24, .mv (.t 23), none, false, false, [23]⟩,
  ⟨some 25, .ld (some 5) [] (.t 3), (some (24, true)), true, false, [3]⟩,
  ⟨some 26, .ld (some 2) [] (.t 5), (some (24, true)), true, false, [5]⟩,
  ⟨some 27, .call (.c (.fn 32 [] [])) [.o 25, .o 26], (some (24, true)), true, false, [25, 26]⟩,
  ⟨some 28, .pick (.t 24) (.t 27) (.c (.bool false)), none, false, false, [24, 27]⟩,
  ⟨some 4, .mv (.t 28), none, false, false, [28]⟩])
 (.ret)))
def rs_r07_Meet : List IRes := [.t 4]
theorem ok_r07_Meet : fnOk Try.prog 14 ic_r07_Meet rs_r07_Meet 29 = true := by kernel_rfl

/-- tallyman/tallymanref07.Right -/
def ic_r07_Right : ICode :=
 .seq (.ops 0 false [⟨some 2, .mv (.c (.bool false)), none, false, false, [2]⟩])
 (.seq (.seq (.ops 1 false [⟨some 6, .mv (.t 0), none, false, false, []⟩,
  ⟨some 7, .len (.t 6), none, false, false, [6]⟩,
  ⟨some 8, .bin .gtr (.t 7) (.c (.int .i64 32)), none, false, false, [7]⟩])
 (.cond (.t 8)
  (.seq (.ops 2 false [⟨some 2, .mv (.c (.bool false)), none, false, false, []⟩])
  (.ret))
  (.skip)))
 (.seq (.seq (.ops 3 false [⟨some 3, .mv (.c (.int .i64 0)), none, false, false, []⟩])
 (.block 0 (.loop [0, 3] (.seq (.seq (.ops 4 false [⟨some 9, .mv (.t 3), none, false, false, []⟩,
    ⟨some 10, .mv (.t 0), none, false, false, []⟩,
    ⟨some 11, .len (.t 10), none, false, false, [10]⟩,
    ⟨some 12, .bin .lss (.t 9) (.t 11), none, false, false, [9, 11]⟩])
   (.cond (.t 12)
    (.skip)
    (.exit 0)))
   (.seq (.block 1 (.seq (.ops 6 false [⟨some 15, .mv (.t 0), none, false, false, []⟩,
     ⟨some 16, .mv (.t 3), none, false, false, []⟩,
     ⟨some 17, .ia 5 [.int .i64 0, .int .i64 0, .int .i64 0, .int .i64 0, .int .i64 0] (.t 15) (.t 16), none, false, false, [15, 16]⟩,
     ⟨some 18, .ld (some 5) [.int .i64 0, .int .i64 0, .int .i64 0, .int .i64 0, .int .i64 0] (.t 17), none, false, false, [17]⟩,
     ⟨some 4, .alloc [.int .i64 0, .int .i64 0, .int .i64 0, .int .i64 0, .int .i64 0], none, false, false, []⟩,
     ⟨none, .st 5 (.t 4) (.t 18), none, false, false, [18]⟩])
    (.seq (.seq (.ops 7 true [⟨some 19, .fa 0 (.t 4), none, false, false, []⟩,
     ⟨some 20, .ld none [] (.t 19), none, false, false, [19]⟩,
     ⟨some 21, .bin .lss (.t 20) (.c (.int .i64 1)), none, false, false, [20]⟩,
     ⟨some 22, .mv (.t 21), none, false, false, [21]⟩,
     ⟨some 23, .fa 0 (.t 4), (some (22, false)), true, false, []⟩,
     ⟨some 24, .ld none [] (.o 23), (some (22, false)), true, false, [23]⟩,
     ⟨some 25, .bin .gtr (.o 24) (.c (.int .i64 999)), (some (22, false)), true, false, [24]⟩,
     ⟨some 26, .pick (.t 22) (.c (.bool true)) (.t 25), none, false, false, [22, 25]⟩,
     ⟨some 27, .mv (.t 26), none, false, false, [26]⟩,
     ⟨some 28, .mv (.t 3), (some (27, false)), true, false, []⟩,
     ⟨some 29, .bin .gtr (.o 28) (.c (.int .i64 0)), (some (27, false)), true, false, [28]⟩,
     ⟨some 30, .mv (.o 29), (some (27, false)), true, false, [29]⟩,
     ⟨some 31, .fa 0 (.t 4), (some (30, true)), true, false, []⟩,
     ⟨some 32, .ld none [] (.o 31), (some (30, true)), true, false, [31]⟩,
     ⟨some 33, .mv (.t 0), (some (30, true)), true, false, []⟩,
     ⟨some 34, .mv (.t 3), (some (30, true)), true, false, []⟩,
     ⟨some 35, .bin .sub (.o 34) (.c (.int .i64 1)), (some (30, true)), true, false, [34]⟩,
     ⟨some 36, .ia 5 [.int .i64 0, .int .i64 0, .int .i64 0, .int .i64 0, .int .i64 0] (.o 33) (.o 35), (some (30, true)), true, false, [33, 35]⟩,
     ⟨some 37, .fa 0 (.o 36), (some (30, true)), true, false, [36]⟩,
     ⟨some 38, .ld none [.int .i64 0, .int .i64 0, .int .i64 0, .int .i64 0, .int .i64 0] (.o 37), (some (30, true)), true, false, [37]⟩,
     ⟨some 39, .bin .leq (.o 32) (.o 38), (some (30, true)), true, false, [32, 38]⟩,
     ⟨some 40, .pick (.o 30) (.t 39) (.c (.bool false)), (some (27, false)), true, false, [30, 39]⟩,
     ⟨some 41, .pick (.t 27) (.c (.bool true)) (.t 40), none, false, false, [27, 40]⟩,
     ⟨some 42, .mv (.t 41), none, false, false, [41]⟩,
     ⟨some 43, .fa 1 (.t 4), (some (42, false)), true, false, []⟩,
     ⟨some 44, .ld (some 2) [] (.o 43), (some (42, false)), true, false, [43]⟩,
     ⟨some 45, .call (.c (.fn 26 [] [])) [.o 44, .c (.int .i64 1000)], (some (42, false)), true, false, [44]⟩,
     ⟨some 46, .not (.o 45), (some (42, false)), true, false, [45]⟩,
     ⟨some 47, .pick (.t 42) (.c (.bool true)) (.t 46), none, false, false, [42, 46]⟩,
     ⟨some 48, .mv (.t 47), none, false, false, [47]⟩,
     ⟨some 49, .fa 3 (.t 4), (some (48, false)), true, false, []⟩,
     ⟨some 50, .ld (some 2) [] (.o 49), (some (48, false)), true, false, [49]⟩,
     ⟨some 51, .call (.c (.fn 26 [] [])) [.o 50, .c (.int .i64 1000)], (some (48, false)), true, false, [50]⟩,
     ⟨some 52, .not (.o 51), (some (48, false)), true, false, [51]⟩,
     ⟨some 53, .pick (.t 48) (.c (.bool true)) (.t 52), none, false, false, [48, 52]⟩,
     ⟨some 54, .mv (.t 53), none, false, false, [53]⟩,
     ⟨some 55, .fa 1 (.t 4), (some (54, false)), true, false, []⟩,
     ⟨some 56, .fa 0 (.o 55), (some (54, false)), true, false, [55]⟩,
     ⟨some 57, .ld none [] (.o 56), (some (54, false)), true, false, [56]⟩,
     ⟨some 58, .fa 3 (.t 4), (some (54, false)), true, false, []⟩,
     ⟨some 59, .fa 0 (.o 58), (some (54, false)), true, false, [58]⟩,
     ⟨some 60, .ld none [] (.o 59), (some (54, false)), true, false, [59]⟩,
     ⟨some 61, .bin .gtr (.o 57) (.o 60), (some (54, false)), true, false, [57, 60]⟩,
     ⟨some 62, .pick (.t 54) (.c (.bool true)) (.t 61), none, false, false, [54, 61]⟩,
     ⟨some 63, .mv (.t 62), none, false, false, [62]⟩,
     ⟨some 64, .fa 1 (.t 4), (some (63, false)), true, false, []⟩,
     ⟨some 65, .fa 1 (.o 64), (some (63, false)), true, false, [64]⟩,
     ⟨some 66, .ld none [] (.o 65), (some (63, false)), true, false, [65]⟩,
     ⟨some 67, .fa 3 (.t 4), (some (63, false)), true, false, []⟩,
     ⟨some 68, .fa 1 (.o 67), (some (63, false)), true, false, [67]⟩,
     ⟨some 69, .ld none [] (.o 68), (some (63, false)), true, false, [68]⟩,
     ⟨some 70, .bin .gtr (.o 66) (.o 69), (some (63, false)), true, false, [66, 69]⟩,
     ⟨some 71, .pick (.t 63) (.c (.bool true)) (.t 70), none, false, false, [63, 70]⟩])
    (.cond (.t 71)
     (.seq (.ops 8 false [⟨some 2, .mv (.c (.bool false)), none, false, false, []⟩])
     (.ret))
     (.skip)))
    (.seq (.ops 9 false [⟨some 5, .mv (.c (.int .i64 0)), none, false, false, []⟩])
    (.block 2 (.loop [0, 3, 4, 5] (.seq (.seq (.ops 10 false [⟨some 72, .mv (.t 5), none, false, false, []⟩,
       ⟨some 73, .mv (.t 3), none, false, false, []⟩,
       ⟨some 74, .bin .lss (.t 72) (.t 73), none, false, false, [72, 73]⟩])
      (.cond (.t 74)
       (.skip)
       (.exit 2)))
      (.seq (.block 3 (.seq (.ops 12 true [⟨some 77, .mv (.t 0), none, false, false, []⟩,
        ⟨some 78, .mv (.t 5), none, false, false, []⟩,
        ⟨some 79, .ia 5 [.int .i64 0, .int .i64 0, .int .i64 0, .int .i64 0, .int .i64 0] (.t 77) (.t 78), none, false, false, [77, 78]⟩,
        ⟨some 80, .ld (some 5) [.int .i64 0, .int .i64 0, .int .i64 0, .int .i64 0, .int .i64 0] (.t 79), none, false, false, [79]⟩,
        ⟨some 81, .ld (some 5) [] (.t 4), none, false, false, []⟩,
        ⟨some 82, .call (.c (.fn 14 [] [])) [.t 80, .t 81], none, false, false, [80, 81]⟩])
       (.cond (.t 82)
        (.seq (.ops 13 false [⟨some 2, .mv (.c (.bool false)), none, false, false, []⟩])
        (.ret))
        (.skip))))
      (.ops 11 false [⟨some 75, .mv (.t 5), none, false, false, [5]⟩,
       ⟨some 76, .bin .add (.t 75) (.c (.int .i64 1)), none, false, false, [75]⟩,
       ⟨some 5, .mv (.t 76), none, false, false, [76]⟩])))))))))
   (.ops 5 false [⟨some 13, .mv (.t 3), none, false, false, [3]⟩,
    ⟨some 14, .bin .add (.t 13) (.c (.int .i64 1)), none, false, false, [13]⟩,
    ⟨some 3, .mv (.t 14), none, false, false, [14]⟩]))))))
 (.seq (.ops 14 false [⟨some 2, .mv (.c (.bool true)), none, false, false, []⟩])
 (.ret))))
def rs_r07_Right : List IRes := [.t 2]
theorem ok_r07_Right : fnOk Try.prog 12 ic_r07_Right rs_r07_Right 83 = true := by kernel_rfl

def rs_r19_All : List IRes := [.t 4]
/-- tallyman/tallymanref19.Same -/
def ic_r19_Same : ICode :=
 .seq (.ops 0 false [⟨some 2, .box (.t 0), none, false, false, [0]⟩,
  ⟨some 3, .box (.t 1), none, false, false, [1]⟩,
  ⟨some 4, .mv (.c (.bool false)), none, false, false, [4]⟩])
 (.seq (.ops 1 false [⟨some 5, .fa 0 (.t 2), none, false, false, []⟩,
  ⟨some 6, .ld none [] (.t 5), none, false, false, [5]⟩,
  ⟨some 7, .fa 0 (.t 3), none, false, false, []⟩,
  ⟨some 8, .ld none [] (.t 7), none, false, false, [7]⟩,
  ⟨some 9, .bin .eql (.t 6) (.t 8), none, false, false, [6, 8]⟩,
  ⟨some 10, .mv (.t 9), none, false, false, [9]⟩,
  ⟨some 11, .fa 1 (.t 2), (some (10, true)), true, false, []⟩,
  ⟨some 12, .ld none [] (.o 11), (some (10, true)), true, false, [11]⟩,
  ⟨some 13, .fa 1 (.t 3), (some (10, true)), true, false, []⟩,
  ⟨some 14, .ld none [] (.o 13), (some (10, true)), true, false, [13]⟩,
  ⟨some 15, .bin .eql (.o 12) (.o 14), (some (10, true)), true, false, [12, 14]⟩,
  ⟨some 16, .pick (.t 10) (.t 15) (.c (.bool false)), none, false, false, [10, 15]⟩,
  ⟨some 17, .mv (.t 16), none, false, false, [16]⟩,
  ⟨some 18, .fa 2 (.t 2), (some (17, true)), true, false, [2]⟩,
  ⟨some 19, .ld none [] (.o 18), (some (17, true)), true, false, [18]⟩,
  ⟨some 20, .fa 2 (.t 3), (some (17, true)), true, false, [3]⟩,
  ⟨some 21, .ld none [] (.o 20), (some (17, true)), true, false, [20]⟩,
  ⟨some 22, .call (.c (.fn 18 [] [])) [.o 19, .o 21], (some (17, true)), true, false, [19, 21]⟩,
  ⟨some 23, .pick (.t 17) (.t 22) (.c (.bool false)), none, false, false, [17, 22]⟩,
  ⟨some 4, .mv (.t 23), none, false, false, [23]⟩])
 (.ret))
def rs_r19_Same : List IRes := [.t 4]
def rs_r22_Rules : List IRes := [.t 2]
/-- tallyman/tallymanref22.within -/
def ic_r22_within : ICode :=
 .seq (.ops 0 false [⟨some 6, .mv (.c (.bool false)), none, false, false, [6]⟩])
 (.seq (.ops 1 false [⟨some 7, .mv (.t 0), none, false, false, []⟩,
  ⟨some 8, .mv (.t 1), none, false, false, [1]⟩,
  ⟨some 9, .bin .geq (.t 7) (.t 8), none, false, false, [7, 8]⟩,
  ⟨some 10, .mv (.t 9), none, false, false, [9]⟩,
  ⟨some 11, .mv (.t 0), (some (10, true)), true, false, [0]⟩,
  ⟨some 12, .mv (.t 2), (some (10, true)), true, false, [2]⟩,
  ⟨some 13, .bin .leq (.o 11) (.o 12), (some (10, true)), true, false, [11, 12]⟩,
  ⟨some 14, .pick (.t 10) (.t 13) (.c (.bool false)), none, false, false, [10, 13]⟩,
  ⟨some 6, .mv (.t 14), none, false, false, [14]⟩])
 (.ret))
def rs_r22_within : List IRes := [.t 6]
/-- tallyman/tallymanref23.Few -/
def ic_r23_Few : ICode :=
 .seq (.ops 0 false [⟨some 4, .mv (.c (.bool false)), none, false, false, [4]⟩])
 (.seq (.seq (.ops 1 false [⟨some 6, .mv (.t 0), none, false, false, []⟩,
  ⟨some 7, .len (.t 6), none, false, false, [6]⟩,
  ⟨some 8, .mv (.t 1), none, false, false, [1]⟩,
  ⟨some 9, .bin .gtr (.t 7) (.t 8), none, false, false, [7, 8]⟩])
 (.cond (.t 9)
  (.seq (.ops 2 false [⟨some 4, .mv (.c (.bool false)), none, false, false, []⟩])
  (.ret))
  (.skip)))
 (.seq (.seq (.ops 3 false [⟨some 5, .mv (.c (.int .i64 0)), none, false, false, []⟩])
 (.block 0 (.loop [0, 5] (.seq (.seq (.ops 4 false [⟨some 10, .mv (.t 5), none, false, false, []⟩,
    ⟨some 11, .mv (.t 0), none, false, false, []⟩,
    ⟨some 12, .len (.t 11), none, false, false, [11]⟩,
    ⟨some 13, .bin .lss (.t 10) (.t 12), none, false, false, [10, 12]⟩])
   (.cond (.t 13)
    (.skip)
    (.exit 0)))
   (.seq (.block 1 (.seq (.ops 6 false [⟨some 16, .mv (.t 0), none, false, false, []⟩,
     ⟨some 17, .mv (.t 5), none, false, false, []⟩,
     ⟨some 18, .ia 14 [.int .i64 0, .int .i64 0, .int .u64 0, .int .u64 0, .int .i64 0, .int .i64 0, .int .i64 0, .int .i64 0, .view [], .int .i64 0, .int .i64 0, .int .i64 0, .int .i64 0, .view []] (.t 16) (.t 17), none, false, false, [16, 17]⟩,
     ⟨some 19, .fa 0 (.t 18), none, false, false, [18]⟩,
     ⟨some 20, .fa 8 (.t 19), none, false, false, [19]⟩,
     ⟨some 21, .ld none [.int .i64 0, .int .i64 0, .int .u64 0, .int .u64 0, .int .i64 0, .int .i64 0, .int .i64 0, .int .i64 0, .view [], .int .i64 0, .int .i64 0, .int .i64 0, .int .i64 0, .view []] (.t 20), none, false, false, [20]⟩,
     ⟨some 22, .len (.t 21), none, false, false, [21]⟩,
     ⟨some 23, .bin .gtr (.t 22) (.c (.int .i64 20)), none, false, false, [22]⟩,
     ⟨some 24, .mv (.t 23), none, false, false, [23]⟩,
     ⟨some 25, .mv (.t 0), (some (24, false)), true, false, []⟩,
     ⟨some 26, .mv (.t 5), (some (24, false)), true, false, []⟩,
     ⟨some 27, .ia 14 [.int .i64 0, .int .i64 0, .int .u64 0, .int .u64 0, .int .i64 0, .int .i64 0, .int .i64 0, .int .i64 0, .view [], .int .i64 0, .int .i64 0, .int .i64 0, .int .i64 0, .view []] (.o 25) (.o 26), (some (24, false)), true, false, [25, 26]⟩,
     ⟨some 28, .fa 13 (.o 27), (some (24, false)), true, false, [27]⟩,
     ⟨some 29, .ld none [.int .i64 0, .int .i64 0, .int .u64 0, .int .u64 0, .int .i64 0, .int .i64 0, .int .i64 0, .int .i64 0, .view [], .int .i64 0, .int .i64 0, .int .i64 0, .int .i64 0, .view []] (.o 28), (some (24, false)), true, false, [28]⟩,
     ⟨some 30, .len (.o 29), (some (24, false)), true, false, [29]⟩,
     ⟨some 31, .bin .gtr (.o 30) (.c (.int .i64 40)), (some (24, false)), true, false, [30]⟩,
     ⟨some 32, .pick (.t 24) (.c (.bool true)) (.t 31), none, false, false, [24, 31]⟩])
    (.cond (.t 32)
     (.seq (.ops 7 false [⟨some 4, .mv (.c (.bool false)), none, false, false, []⟩])
     (.ret))
     (.skip))))
   (.ops 5 false [⟨some 14, .mv (.t 5), none, false, false, [5]⟩,
    ⟨some 15, .bin .add (.t 14) (.c (.int .i64 1)), none, false, false, [14]⟩,
    ⟨some 5, .mv (.t 15), none, false, false, [15]⟩]))))))
 (.seq (.ops 8 false [⟨some 4, .mv (.c (.bool true)), none, false, false, []⟩])
 (.ret))))
def rs_r23_Few : List IRes := [.t 4]
/-- tallyman/tallymanref23.Find -/
def ic_r23_Find : ICode :=
 .seq (.ops 0 false [⟨some 4, .mv (.c (.int .i64 0)), none, false, false, [4]⟩])
 (.seq (.seq (.ops 1 false [⟨some 5, .mv (.c (.int .i64 0)), none, false, false, []⟩])
 (.block 0 (.loop [0, 1, 5] (.seq (.seq (.ops 2 false [⟨some 6, .mv (.t 5), none, false, false, []⟩,
    ⟨some 7, .mv (.t 0), none, false, false, []⟩,
    ⟨some 8, .len (.t 7), none, false, false, [7]⟩,
    ⟨some 9, .bin .lss (.t 6) (.t 8), none, false, false, [6, 8]⟩])
   (.cond (.t 9)
    (.skip)
    (.exit 0)))
   (.seq (.block 1 (.seq (.ops 4 false [⟨some 12, .mv (.t 0), none, false, false, []⟩,
     ⟨some 13, .mv (.t 5), none, false, false, []⟩,
     ⟨some 14, .ia 14 [.int .i64 0, .int .i64 0, .int .u64 0, .int .u64 0, .int .i64 0, .int .i64 0, .int .i64 0, .int .i64 0, .view [], .int .i64 0, .int .i64 0, .int .i64 0, .int .i64 0, .view []] (.t 12) (.t 13), none, false, false, [12, 13]⟩,
     ⟨some 15, .fa 0 (.t 14), none, false, false, [14]⟩,
     ⟨some 16, .fa 0 (.t 15), none, false, false, [15]⟩,
     ⟨some 17, .ld none [.int .i64 0, .int .i64 0, .int .u64 0, .int .u64 0, .int .i64 0, .int .i64 0, .int .i64 0, .int .i64 0, .view [], .int .i64 0, .int .i64 0, .int .i64 0, .int .i64 0, .view []] (.t 16), none, false, false, [16]⟩,
     ⟨some 18, .mv (.t 1), none, false, false, []⟩,
     ⟨some 19, .bin .eql (.t 17) (.t 18), none, false, false, [17, 18]⟩])
    (.cond (.t 19)
     (.seq (.ops 5 false [⟨some 20, .mv (.t 5), none, false, false, [5]⟩,
      ⟨some 4, .mv (.t 20), none, false, false, [20]⟩])
     (.ret))
     (.skip))))
   (.ops 3 false [⟨some 10, .mv (.t 5), none, false, false, [5]⟩,
    ⟨some 11, .bin .add (.t 10) (.c (.int .i64 1)), none, false, false, [10]⟩,
    ⟨some 5, .mv (.t 11), none, false, false, [11]⟩]))))))
 (.seq (.ops 6 false [⟨some 4, .mv (.c (.int .i64 (-1))), none, false, false, []⟩])
 (.ret)))
def rs_r23_Find : List IRes := [.t 4]
/-- tallyman/tallymanref25.Find -/
def ic_r25_Find : ICode :=
 .seq (.ops 0 false [⟨some 4, .mv (.c (.int .i64 0)), none, false, false, [4]⟩])
 (.seq (.seq (.ops 1 false [⟨some 5, .mv (.c (.int .i64 0)), none, false, false, []⟩])
 (.block 0 (.loop [0, 1, 5] (.seq (.seq (.ops 2 false [⟨some 6, .mv (.t 5), none, false, false, []⟩,
    ⟨some 7, .mv (.t 0), none, false, false, []⟩,
    ⟨some 8, .len (.t 7), none, false, false, [7]⟩,
    ⟨some 9, .bin .lss (.t 6) (.t 8), none, false, false, [6, 8]⟩])
   (.cond (.t 9)
    (.skip)
    (.exit 0)))
   (.seq (.block 1 (.seq (.ops 4 false [⟨some 12, .mv (.t 0), none, false, false, []⟩,
     ⟨some 13, .mv (.t 5), none, false, false, []⟩,
     ⟨some 14, .ia 3 [.int .i64 0, .int .u64 0, .bool false] (.t 12) (.t 13), none, false, false, [12, 13]⟩,
     ⟨some 15, .fa 0 (.t 14), none, false, false, [14]⟩,
     ⟨some 16, .ld none [.int .i64 0, .int .u64 0, .bool false] (.t 15), none, false, false, [15]⟩,
     ⟨some 17, .mv (.t 1), none, false, false, []⟩,
     ⟨some 18, .bin .eql (.t 16) (.t 17), none, false, false, [16, 17]⟩])
    (.cond (.t 18)
     (.seq (.ops 5 false [⟨some 19, .mv (.t 5), none, false, false, [5]⟩,
      ⟨some 4, .mv (.t 19), none, false, false, [19]⟩])
     (.ret))
     (.skip))))
   (.ops 3 false [⟨some 10, .mv (.t 5), none, false, false, [5]⟩,
    ⟨some 11, .bin .add (.t 10) (.c (.int .i64 1)), none, false, false, [10]⟩,
    ⟨some 5, .mv (.t 11), none, false, false, [11]⟩]))))))
 (.seq (.ops 6 false [⟨some 4, .mv (.c (.int .i64 (-1))), none, false, false, []⟩])
 (.ret)))
def rs_r25_Find : List IRes := [.t 4]
/-- tallyman/tallymanref25.Same -/
def ic_r25_Same : ICode :=
 .seq (.ops 0 false [⟨some 4, .mv (.c (.bool false)), none, false, false, [4]⟩])
 (.seq (.seq (.ops 1 false [⟨some 6, .mv (.t 0), none, false, false, []⟩,
  ⟨some 7, .len (.t 6), none, false, false, [6]⟩,
  ⟨some 8, .mv (.t 1), none, false, false, []⟩,
  ⟨some 9, .len (.t 8), none, false, false, [8]⟩,
  ⟨some 10, .bin .neq (.t 7) (.t 9), none, false, false, [7, 9]⟩])
 (.cond (.t 10)
  (.seq (.ops 2 false [⟨some 4, .mv (.c (.bool false)), none, false, false, []⟩])
  (.ret))
  (.skip)))
 (.seq (.seq (.ops 3 false [⟨some 5, .mv (.c (.int .i64 0)), none, false, false, []⟩])
 (.block 0 (.loop [0, 1, 5] (.seq (.seq (.ops 4 false [⟨some 11, .mv (.t 5), none, false, false, []⟩,
    ⟨some 12, .mv (.t 0), none, false, false, []⟩,
    ⟨some 13, .len (.t 12), none, false, false, [12]⟩,
    ⟨some 14, .bin .lss (.t 11) (.t 13), none, false, false, [11, 13]⟩])
   (.cond (.t 14)
    (.skip)
    (.exit 0)))
   (.seq (.block 1 (.seq (.ops 6 true [⟨some 17, .mv (.t 0), none, false, false, []⟩,
     ⟨some 18, .mv (.t 5), none, false, false, []⟩,
     ⟨some 19, .ia 3 [.int .i64 0, .int .u64 0, .bool false] (.t 17) (.t 18), none, false, false, [17, 18]⟩,
     ⟨some 20, .ld (some 3) [.int .i64 0, .int .u64 0, .bool false] (.t 19), none, false, false, [19]⟩,
     ⟨some 21, .mv (.t 1), none, false, false, []⟩,
     ⟨some 22, .mv (.t 5), none, false, false, []⟩,
     ⟨some 23, .ia 3 [.int .i64 0, .int .u64 0, .bool false] (.t 21) (.t 22), none, false, false, [21, 22]⟩,
     ⟨some 24, .ld (some 3) [.int .i64 0, .int .u64 0, .bool false] (.t 23), none, false, false, [23]⟩,
     ⟨some 25, .eqc true [false, false, true] (.t 20) (.t 24), none, false, false, [20, 24]⟩])
    (.cond (.t 25)
     (.seq (.ops 7 false [⟨some 4, .mv (.c (.bool false)), none, false, false, []⟩])
     (.ret))
     (.skip))))
   (.ops 5 false [⟨some 15, .mv (.t 5), none, false, false, [5]⟩,
    ⟨some 16, .bin .add (.t 15) (.c (.int .i64 1)), none, false, false, [15]⟩,
    ⟨some 5, .mv (.t 16), none, false, false, [16]⟩]))))))
 (.seq (.ops 8 false [⟨some 4, .mv (.c (.bool true)), none, false, false, []⟩])
 (.ret))))
def rs_r25_Same : List IRes := [.t 4]
def rs_r26_All : List IRes := [.t 4]
/-- tallyman/tallymanref26.Find -/
def ic_r26_Find : ICode :=
 .seq (.ops 0 false [⟨some 4, .mv (.c (.int .i64 0)), none, false, false, [4]⟩])
 (.seq (.seq (.ops 1 false [⟨some 5, .mv (.c (.int .i64 0)), none, false, false, []⟩])
 (.block 0 (.loop [0, 1, 5] (.seq (.seq (.ops 2 false [⟨some 6, .mv (.t 5), none, false, false, []⟩,
    ⟨some 7, .mv (.t 0), none, false, false, []⟩,
    ⟨some 8, .len (.t 7), none, false, false, [7]⟩,
    ⟨some 9, .bin .lss (.t 6) (.t 8), none, false, false, [6, 8]⟩])
   (.cond (.t 9)
    (.skip)
    (.exit 0)))
   (.seq (.block 1 (.seq (.ops 4 false [⟨some 12, .mv (.t 0), none, false, false, []⟩,
     ⟨some 13, .mv (.t 5), none, false, false, []⟩,
     ⟨some 14, .ia 7 [.int .i64 0, .int .i64 0, .int .i64 0, .int .i64 0, .int .i64 0, .int .i64 0, .view []] (.t 12) (.t 13), none, false, false, [12, 13]⟩,
     ⟨some 15, .fa 0 (.t 14), none, false, false, [14]⟩,
     ⟨some 16, .ld none [.int .i64 0, .int .i64 0, .int .i64 0, .int .i64 0, .int .i64 0, .int .i64 0, .view []] (.t 15), none, false, false, [15]⟩,
     ⟨some 17, .mv (.t 1), none, false, false, []⟩,
     ⟨some 18, .bin .eql (.t 16) (.t 17), none, false, false, [16, 17]⟩])
    (.cond (.t 18)
     (.seq (.ops 5 false [⟨some 19, .mv (.t 5), none, false, false, [5]⟩,
      ⟨some 4, .mv (.t 19), none, false, false, [19]⟩])
     (.ret))
     (.skip))))
   (.ops 3 false [⟨some 10, .mv (.t 5), none, false, false, [5]⟩,
    ⟨some 11, .bin .add (.t 10) (.c (.int .i64 1)), none, false, false, [10]⟩,
    ⟨some 5, .mv (.t 11), none, false, false, [11]⟩]))))))
 (.seq (.ops 6 false [⟨some 4, .mv (.c (.int .i64 (-1))), none, false, false, []⟩])
 (.ret)))
def rs_r26_Find : List IRes := [.t 4]
/-- tallyman/tallymanref26.Same -/
def ic_r26_Same : ICode :=
 .seq (.ops 0 false [⟨some 2, .box (.t 0), none, false, false, [0]⟩,
  ⟨some 3, .box (.t 1), none, false, false, [1]⟩,
  ⟨some 4, .mv (.c (.bool false)), none, false, false, [4]⟩])
 (.seq (.ops 1 false [⟨some 5, .fa 0 (.t 2), none, false, false, []⟩,
  ⟨some 6, .ld none [] (.t 5), none, false, false, [5]⟩,
  ⟨some 7, .fa 0 (.t 3), none, false, false, []⟩,
  ⟨some 8, .ld none [] (.t 7), none, false, false, [7]⟩,
  ⟨some 9, .bin .eql (.t 6) (.t 8), none, false, false, [6, 8]⟩,
  ⟨some 10, .mv (.t 9), none, false, false, [9]⟩,
  ⟨some 11, .fa 1 (.t 2), (some (10, true)), true, false, []⟩,
  ⟨some 12, .ld none [] (.o 11), (some (10, true)), true, false, [11]⟩,
  ⟨some 13, .fa 1 (.t 3), (some (10, true)), true, false, []⟩,
  ⟨some 14, .ld none [] (.o 13), (some (10, true)), true, false, [13]⟩,
  ⟨some 15, .bin .eql (.o 12) (.o 14), (some (10, true)), true, false, [12, 14]⟩,
  ⟨some 16, .pick (.t 10) (.t 15) (.c (.bool false)), none, false, false, [10, 15]⟩,
  ⟨some 17, .mv (.t 16), none, false, false, [16]⟩,
  ⟨some 18, .fa 2 (.t 2), (some (17, true)), true, false, []⟩,
  ⟨some 19, .ld none [] (.o 18), (some (17, true)), true, false, [18]⟩,
  ⟨some 20, .fa 2 (.t 3), (some (17, true)), true, false, []⟩,
  ⟨some 21, .ld none [] (.o 20), (some (17, true)), true, false, [20]⟩,
  ⟨some 22, .bin .eql (.o 19) (.o 21), (some (17, true)), true, false, [19, 21]⟩,
  ⟨some 23, .pick (.t 17) (.t 22) (.c (.bool false)), none, false, false, [17, 22]⟩,
  ⟨some 24, .mv (.t 23), none, false, false, [23]⟩,
  ⟨some 25, .fa 3 (.t 2), (some (24, true)), true, false, []⟩,
  ⟨some 26, .ld none [] (.o 25), (some (24, true)), true, false, [25]⟩,
  ⟨some 27, .fa 3 (.t 3), (some (24, true)), true, false, []⟩,
  ⟨some 28, .ld none [] (.o 27), (some (24, true)), true, false, [27]⟩,
  ⟨some 29, .bin .eql (.o 26) (.o 28), (some (24, true)), true, false, [26, 28]⟩,
  ⟨some 30, .pick (.t 24) (.t 29) (.c (.bool false)), none, false, false, [24, 29]⟩,
  ⟨some 31, .mv (.t 30), none, false, false, [30]⟩,
  ⟨some 32, .fa 4 (.t 2), (some (31, true)), true, false, []⟩,
  ⟨some 33, .ld none [] (.o 32), (some (31, true)), true, false, [32]⟩,
  ⟨some 34, .fa 4 (.t 3), (some (31, true)), true, false, []⟩,
  ⟨some 35, .ld none [] (.o 34), (some (31, true)), true, false, [34]⟩,
  ⟨some 36, .bin .eql (.o 33) (.o 35), (some (31, true)), true, false, [33, 35]⟩,
  ⟨some 37, .pick (.t 31) (.t 36) (.c (.bool false)), none, false, false, [31, 36]⟩,
  ⟨some 38, .mv (.t 37), none, false, false, [37]⟩,
  ⟨some 39, .fa 5 (.t 2), (some (38, true)), true, false, []⟩,
  ⟨some 40, .ld none [] (.o 39), (some (38, true)), true, false, [39]⟩,
  ⟨some 41, .fa 5 (.t 3), (some (38, true)), true, false, []⟩,
  ⟨some 42, .ld none [] (.o 41), (some (38, true)), true, false, [41]⟩,
  ⟨some 43, .bin .eql (.o 40) (.o 42), (some (38, true)), true, false, [40, 42]⟩,
  ⟨some 44, .pick (.t 38) (.t 43) (.c (.bool false)), none, false, false, [38, 43]⟩,
  ⟨some 45, .mv (.t 44), none, false, false, [44]⟩,
  ⟨some 46, .fa 6 (.t 2), (some (45, true)), true, false, [2]⟩,
  ⟨some 47, .ld none [] (.o 46), (some (45, true)), true, false, [46]⟩,
  ⟨some 48, .fa 6 (.t 3), (some (45, true)), true, false, [3]⟩,
  ⟨some 49, .ld none [] (.o 48), (some (45, true)), true, false, [48]⟩,
  ⟨some 50, .call (.c (.fn 18 [] [])) [.o 47, .o 49], (some (45, true)), true, false, [47, 49]⟩,
  ⟨some 51, .pick (.t 45) (.t 50) (.c (.bool false)), none, false, false, [45, 50]⟩,
  ⟨some 4, .mv (.t 51), none, false, false, [51]⟩])
 (.ret))
def rs_r26_Same : List IRes := [.t 4]
def rs_r30_Few : List IRes := [.t 2]
def rs_r30_Hand : List IRes := [.cell 4 (some 3), .t 5]
def rs_r30_Lease : List IRes := [.cell 4 (some 7), .t 5]
/-- tallyman/tallymanref30.Many -/
def ic_r30_Many : ICode :=
 .seq (.ops 0 false [⟨some 2, .box (.t 0), none, false, false, [0]⟩,
  ⟨some 4, .mv (.c (.int .i64 0)), none, false, false, [4]⟩])
 (.seq (.ops 1 false [⟨some 5, .mv (.c (.int .i64 0)), none, false, false, []⟩])
 (.seq (.seq (.ops 2 false [⟨some 6, .mv (.c (.int .i64 0)), none, false, false, []⟩])
 (.block 0 (.loop [1, 2, 5, 6] (.seq (.seq (.ops 3 false [⟨some 7, .mv (.t 6), none, false, false, []⟩,
    ⟨some 8, .fa 3 (.t 2), none, false, false, []⟩,
    ⟨some 9, .ld none [] (.t 8), none, false, false, [8]⟩,
    ⟨some 10, .len (.t 9), none, false, false, [9]⟩,
    ⟨some 11, .bin .lss (.t 7) (.t 10), none, false, false, [7, 10]⟩])
   (.cond (.t 11)
    (.skip)
    (.exit 0)))
   (.seq (.block 1 (.seq (.ops 5 false [⟨some 14, .fa 3 (.t 2), none, false, false, []⟩,
     ⟨some 15, .ld none [] (.t 14), none, false, false, [14]⟩,
     ⟨some 16, .mv (.t 6), none, false, false, []⟩,
     ⟨some 17, .ia 14 [.int .i64 0, .int .i64 0, .int .u64 0, .int .u64 0, .int .i64 0, .int .i64 0, .int .i64 0, .int .i64 0, .view [], .int .i64 0, .int .i64 0, .int .i64 0, .int .i64 0, .view []] (.t 15) (.t 16), none, false, false, [15, 16]⟩,
     ⟨some 18, .fa 9 (.t 17), none, false, false, [17]⟩,
     ⟨some 19, .ld none [.int .i64 0, .int .i64 0, .int .u64 0, .int .u64 0, .int .i64 0, .int .i64 0, .int .i64 0, .int .i64 0, .view [], .int .i64 0, .int .i64 0, .int .i64 0, .int .i64 0, .view []] (.t 18), none, false, false, [18]⟩,
     ⟨some 20, .mv (.t 1), none, false, false, []⟩,
     ⟨some 21, .bin .eql (.t 19) (.t 20), none, false, false, [19, 20]⟩])
    (.cond (.t 21)
     (.ops 6 false [⟨some 22, .mv (.t 5), none, false, false, [5]⟩,
      ⟨some 23, .bin .add (.t 22) (.c (.int .i64 1)), none, false, false, [22]⟩,
      ⟨some 5, .mv (.t 23), none, false, false, [23]⟩])
     (.skip))))
   (.ops 4 false [⟨some 12, .mv (.t 6), none, false, false, [6]⟩,
    ⟨some 13, .bin .add (.t 12) (.c (.int .i64 1)), none, false, false, [12]⟩,
    ⟨some 6, .mv (.t 13), none, false, false, [13]⟩]))))))
 (.seq (.ops 7 false [⟨some 24, .mv (.t 5), none, false, false, [5]⟩,
  ⟨some 4, .mv (.t 24), none, false, false, [24]⟩])
 (.ret))))
def rs_r30_Many : List IRes := [.t 4]
def rs_r30_Same : List IRes := [.t 4]
def rs_r30_SameTask : List IRes := [.t 4]
def rs_r30_Task : List IRes := [.cell 4 (some 14), .t 5]
def rs_task_Rules : List IRes := [.t 2]
end Go.Proofs.Ytjpgnicgapkndaa.Sx
