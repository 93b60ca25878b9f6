/- Functions of the seat in the small language. No conditions: a kit of our own. -/
import Derived.Test.YtjpgnicgapkndaaProg
import Derived.Test.YtjpgnicgapkndaaSx17
namespace Go.Proofs.Ytjpgnicgapkndaa.Sx
open Go Go.RowKit
set_option linter.unusedVariables false

/-- tallyman/gauss.plane -/
def ic_gauss_plane : ICode :=
 .seq (.ops 0 false [⟨some 1, .box (.t 0), none, false, false, [0]⟩,
  ⟨some 2, .mv (.c (.val (.complex .f64 0 0))), none, false, false, [2]⟩])
 (.seq (.ops 1 false [⟨some 3, .fa 0 (.t 1), none, false, false, []⟩,
  ⟨some 4, .ld none [] (.t 3), none, false, false, [3]⟩,
  ⟨some 5, .mn [.t 4, .c (.int .i64 1048576)], none, false, false, [4]⟩,
  ⟨some 6, .mx [.t 5, .c (.int .i64 (-1048576))], none, false, false, [5]⟩,
  ⟨some 7, .prim .i2f [.t 6], none, false, false, [6]⟩,
  ⟨some 8, .fa 1 (.t 1), none, false, false, [1]⟩,
  ⟨some 9, .ld none [] (.t 8), none, false, false, [8]⟩,
  ⟨some 10, .mn [.t 9, .c (.int .i64 1048576)], none, false, false, [9]⟩,
  ⟨some 11, .mx [.t 10, .c (.int .i64 (-1048576))], none, false, false, [10]⟩,
  ⟨some 12, .prim .i2f [.t 11], none, false, false, [11]⟩,
  ⟨some 13, .prim .cplx [.t 7, .t 12], none, false, false, [7, 12]⟩,
  ⟨some 2, .mv (.t 13), none, false, false, [13]⟩])
 (.ret))
def rs_gauss_plane : List IRes := [.t 2]
theorem ok_gauss_plane : fnOk Try.prog 61 ic_gauss_plane rs_gauss_plane 14 = true := by kernel_rfl

/-- tallyman/gauss.point -/
def ic_gauss_point : ICode :=
 .seq (.ops 0 false [⟨some 2, .alloc [.int .i64 0, .int .i64 0], none, false, false, []⟩])
 (.seq (.ops 1 false [⟨some 3, .mv (.t 0), none, false, false, []⟩,
  ⟨some 4, .prim .re [.t 3], none, false, false, [3]⟩,
  ⟨some 5, .prim .f2i [.t 4], none, false, false, [4]⟩,
  ⟨some 6, .mv (.t 0), none, false, false, [0]⟩,
  ⟨some 7, .prim .im [.t 6], none, false, false, [6]⟩,
  ⟨some 8, .prim .f2i [.t 7], none, false, false, [7]⟩,
  ⟨some 9, .build [.int .i64 0, .int .i64 0] [(0, 1, .t 5), (1, 1, .t 8)], none, false, false, [5, 8]⟩,
  ⟨none, .st 2 (.t 2) (.t 9), none, false, false, [9]⟩])
 (.ret))
def rs_gauss_point : List IRes := [.cell 2 (some 2)]
theorem ok_gauss_point : fnOk Try.prog 60 ic_gauss_point rs_gauss_point 10 = true := by kernel_rfl

/-- tallyman/gauss.Fix -/
def ic_gauss_Fix : ICode :=
 .seq (.ops 0 false [⟨some 1, .box (.t 0), none, false, false, [0]⟩,
  ⟨some 2, .alloc [.int .i64 0, .int .i64 0], none, false, false, []⟩])
 (.seq (.ops 1 false [⟨some 3, .ld (some 2) [] (.t 1), none, false, false, [1]⟩,
  ⟨some 4, .call (.c (.fn 61 [] [])) [.t 3], none, false, false, [3]⟩,
  ⟨some 5, .call (.c (.fn 60 [] [])) [.t 4], none, false, false, [4]⟩,
  ⟨none, .st 2 (.t 2) (.t 5), none, false, false, [5]⟩])
 (.ret))
def rs_gauss_Fix : List IRes := [.cell 2 (some 2)]
theorem ok_gauss_Fix : fnOk Try.prog 48 ic_gauss_Fix rs_gauss_Fix 6 = true := by kernel_rfl

/-- tallyman/gauss.Sub -/
def ic_gauss_Sub : ICode :=
 .seq (.ops 0 false [⟨some 2, .box (.t 0), none, false, false, [0]⟩,
  ⟨some 3, .box (.t 1), none, false, false, [1]⟩,
  ⟨some 4, .alloc [.int .i64 0, .int .i64 0], none, false, false, []⟩])
 (.seq (.ops 1 true [⟨some 5, .ld (some 2) [] (.t 2), none, false, false, [2]⟩,
  ⟨some 6, .call (.c (.fn 61 [] [])) [.t 5], none, false, false, [5]⟩,
  ⟨some 7, .ld (some 2) [] (.t 3), none, false, false, [3]⟩,
  ⟨some 8, .call (.c (.fn 61 [] [])) [.t 7], none, false, false, [7]⟩,
  ⟨some 9, .prim .csub [.t 6, .t 8], none, false, false, [6, 8]⟩,
  ⟨some 10, .call (.c (.fn 60 [] [])) [.t 9], none, false, false, [9]⟩,
  ⟨none, .st 2 (.t 4) (.t 10), none, false, false, [10]⟩])
 (.ret))
def rs_gauss_Sub : List IRes := [.cell 4 (some 2)]
theorem ok_gauss_Sub : fnOk Try.prog 52 ic_gauss_Sub rs_gauss_Sub 11 = true := by kernel_rfl

/-- tallyman/gauss.sizes -/
def ic_gauss_sizes : ICode :=
 .seq (.ops 0 false [⟨some 1, .box (.t 0), none, false, false, [0]⟩,
  ⟨some 2, .mv (.c (.int .i64 0)), none, false, false, [2]⟩,
  ⟨some 3, .mv (.c (.int .i64 0)), none, false, false, [3]⟩])
 (.seq (.ops 1 false [⟨some 5, .ld (some 2) [] (.t 1), none, false, false, [1]⟩,
  ⟨some 6, .call (.c (.fn 48 [] [])) [.t 5], none, false, false, [5]⟩,
  ⟨some 4, .alloc [.int .i64 0, .int .i64 0], none, false, false, []⟩,
  ⟨none, .st 2 (.t 4) (.t 6), none, false, false, [6]⟩])
 (.seq (.ops 2 true [⟨some 7, .fa 0 (.t 4), none, false, false, []⟩,
  ⟨some 8, .ld none [] (.t 7), none, false, false, [7]⟩,
  ⟨some 9, .fa 0 (.t 4), none, false, false, []⟩,
  ⟨some 10, .ld none [] (.t 9), none, false, false, [9]⟩,
  ⟨some 11, .neg (.t 10), none, false, false, [10]⟩,
  ⟨some 12, .mx [.t 8, .t 11], none, false, false, [8, 11]⟩,
  ⟨some 13, .fa 1 (.t 4), none, false, false, []⟩,
  ⟨some 14, .ld none [] (.t 13), none, false, false, [13]⟩,
  ⟨some 15, .fa 1 (.t 4), none, false, false, [4]⟩,
  ⟨some 16, .ld none [] (.t 15), none, false, false, [15]⟩,
  ⟨some 17, .neg (.t 16), none, false, false, [16]⟩,
  ⟨some 18, .mx [.t 14, .t 17], none, false, false, [14, 17]⟩,
  ⟨some 2, .mv (.t 12), none, false, false, [12]⟩,
  ⟨some 3, .mv (.t 18), none, false, false, [18]⟩])
 (.ret)))
def rs_gauss_sizes : List IRes := [.t 2, .t 3]
theorem ok_gauss_sizes : fnOk Try.prog 63 ic_gauss_sizes rs_gauss_sizes 19 = true := by kernel_rfl

/-- tallyman/gauss.Steps -/
def ic_gauss_Steps : ICode :=
 .seq (.ops 0 false [⟨some 1, .box (.t 0), none, false, false, [0]⟩,
  ⟨some 2, .mv (.c (.int .i64 0)), none, false, false, [2]⟩])
 (.seq (.ops 1 false [⟨some 6, .ld (some 2) [] (.t 1), none, false, false, [1]⟩,
  ⟨some 7, .call (.c (.fn 63 [] [])) [.t 6], none, false, false, [6]⟩,
  ⟨some 5, .mv (.t 7), none, false, false, [7]⟩,
  ⟨some 8, .ext 0 (.t 5), none, false, false, []⟩,
  ⟨some 9, .ext 1 (.t 5), none, false, false, [5]⟩,
  ⟨some 3, .mv (.t 8), none, false, false, [8]⟩,
  ⟨some 4, .mv (.t 9), none, false, false, [9]⟩])
 (.seq (.ops 2 false [⟨some 10, .mv (.t 3), none, false, false, [3]⟩,
  ⟨some 11, .mv (.t 4), none, false, false, [4]⟩,
  ⟨some 12, .bin .add (.t 10) (.t 11), none, false, false, [10, 11]⟩,
  ⟨some 2, .mv (.t 12), none, false, false, [12]⟩])
 (.ret)))
def rs_gauss_Steps : List IRes := [.t 2]
theorem ok_gauss_Steps : fnOk Try.prog 53 ic_gauss_Steps rs_gauss_Steps 13 = true := by kernel_rfl

/-- tallyman/gauss.Turn -/
def ic_gauss_Turn : ICode :=
 .seq (.ops 0 false [⟨some 2, .box (.t 0), none, false, false, [0]⟩,
  ⟨some 4, .alloc [.int .i64 0, .int .i64 0], none, false, false, []⟩])
 (.back [1, 4, 5] (.seq (.ops 1 false [⟨some 6, .ld (some 2) [] (.t 2), none, false, false, [2]⟩,
   ⟨some 7, .call (.c (.fn 61 [] [])) [.t 6], none, false, false, [6]⟩,
   ⟨some 5, .mv (.t 7), none, false, false, [7]⟩])
 (.seq (.ops 2 false [⟨some 8, .mv (.t 1), none, false, false, [1]⟩,
   ⟨some 9, .binw .and (.t 8) (.c (.int .i64 3)), none, false, false, [8]⟩,
   ⟨some 1, .mv (.t 9), none, false, false, [9]⟩])
 (.label 0))) 0
  (.seq (.seq (.ops 3 false [⟨some 10, .mv (.t 1), none, false, false, []⟩,
   ⟨some 11, .bin .eql (.t 10) (.c (.int .i64 0)), none, false, false, [10]⟩])
  (.cond (.t 11)
   (.seq (.ops 4 false [⟨some 12, .mv (.t 5), none, false, false, [5]⟩,
    ⟨some 13, .call (.c (.fn 60 [] [])) [.t 12], none, false, false, [12]⟩,
    ⟨none, .st 2 (.t 4) (.t 13), none, false, false, [13]⟩])
   (.ret))
   (.skip)))
  (.seq (.ops 5 false [⟨some 14, .mv (.t 5), none, false, false, [5]⟩,
   ⟨some 15, .prim .cmul [.t 14, .c (.val (.complex .f64 0 4607182418800017408))], none, false, false, [14]⟩,
   ⟨some 5, .mv (.t 15), none, false, false, [15]⟩])
  (.seq (.ops 6 false [⟨some 16, .mv (.t 1), none, false, false, [1]⟩,
   ⟨some 17, .bin .sub (.t 16) (.c (.int .i64 1)), none, false, false, [16]⟩,
   ⟨some 1, .mv (.t 17), none, false, false, [17]⟩])
  (.goto 0)))))
def rs_gauss_Turn : List IRes := [.cell 4 (some 2)]
theorem ok_gauss_Turn : fnOk Try.prog 59 ic_gauss_Turn rs_gauss_Turn 18 = true := by kernel_rfl

/-- tallyman/motion.plane -/
def ic_motion_plane : ICode :=
 .seq (.ops 0 false [⟨some 1, .box (.t 0), none, false, false, [0]⟩,
  ⟨some 2, .mv (.c (.val (.complex .f64 0 0))), none, false, false, [2]⟩])
 (.seq (.ops 1 false [⟨some 3, .fa 0 (.t 1), none, false, false, []⟩,
  ⟨some 4, .ld none [] (.t 3), none, false, false, [3]⟩,
  ⟨some 5, .prim .i2f [.t 4], none, false, false, [4]⟩,
  ⟨some 6, .fa 1 (.t 1), none, false, false, [1]⟩,
  ⟨some 7, .ld none [] (.t 6), none, false, false, [6]⟩,
  ⟨some 8, .prim .i2f [.t 7], none, false, false, [7]⟩,
  ⟨some 9, .prim .cplx [.t 5, .t 8], none, false, false, [5, 8]⟩,
  ⟨some 2, .mv (.t 9), none, false, false, [9]⟩])
 (.ret))
def rs_motion_plane : List IRes := [.t 2]
theorem ok_motion_plane : fnOk Try.prog 47 ic_motion_plane rs_motion_plane 10 = true := by kernel_rfl

/-- tallyman/motion.point -/
def ic_motion_point : ICode :=
 .seq (.ops 0 false [⟨some 2, .alloc [.int .i64 0, .int .i64 0], none, false, false, []⟩])
 (.seq (.ops 1 false [⟨some 3, .mv (.t 0), none, false, false, []⟩,
  ⟨some 4, .prim .re [.t 3], none, false, false, [3]⟩,
  ⟨some 5, .prim .f2i [.t 4], none, false, false, [4]⟩,
  ⟨some 6, .mv (.t 0), none, false, false, [0]⟩,
  ⟨some 7, .prim .im [.t 6], none, false, false, [6]⟩,
  ⟨some 8, .prim .f2i [.t 7], none, false, false, [7]⟩,
  ⟨some 9, .build [.int .i64 0, .int .i64 0] [(0, 1, .t 5), (1, 1, .t 8)], none, false, false, [5, 8]⟩,
  ⟨none, .st 2 (.t 2) (.t 9), none, false, false, [9]⟩])
 (.ret))
def rs_motion_point : List IRes := [.cell 2 (some 2)]
theorem ok_motion_point : fnOk Try.prog 46 ic_motion_point rs_motion_point 10 = true := by kernel_rfl

/-- tallyman/motion.of -/
def ic_motion_of : ICode :=
 .seq (.ops 0 false [⟨some 1, .box (.t 0), none, false, false, [0]⟩,
  ⟨some 2, .alloc [.val (.complex .f64 0 0), .val (.complex .f64 0 0)], none, false, false, []⟩])
 (.seq (.ops 1 true [⟨some 5, .build [.int .i64 0, .int .i64 0] [(0, 1, .c (.int .i64 1))], none, false, false, []⟩,
  ⟨some 6, .fa 0 (.t 1), none, false, true, []⟩,
  ⟨some 7, .ld none [] (.t 6), none, false, true, [6]⟩,
  ⟨some 8, .call (.c (.fn 59 [] [])) [.t 5, .t 7], none, false, true, [5, 7]⟩,
  ⟨some 9, .fa 1 (.t 1), none, false, true, [1]⟩,
  ⟨some 10, .ld (some 2) [] (.t 9), none, false, true, [9]⟩,
  ⟨some 11, .call (.c (.fn 48 [] [])) [.t 10], none, false, true, [10]⟩,
  ⟨some 3, .alloc [.int .i64 0, .int .i64 0], none, false, false, []⟩,
  ⟨some 4, .alloc [.int .i64 0, .int .i64 0], none, false, false, []⟩,
  ⟨none, .st 2 (.t 3) (.t 8), none, false, false, [8]⟩,
  ⟨none, .st 2 (.t 4) (.t 11), none, false, false, [11]⟩])
 (.seq (.ops 2 true [⟨some 12, .ld (some 2) [] (.t 3), none, false, false, [3]⟩,
  ⟨some 13, .call (.c (.fn 47 [] [])) [.t 12], none, false, false, [12]⟩,
  ⟨some 14, .ld (some 2) [] (.t 4), none, false, false, [4]⟩,
  ⟨some 15, .call (.c (.fn 47 [] [])) [.t 14], none, false, false, [14]⟩,
  ⟨some 16, .build [.val (.complex .f64 0 0), .val (.complex .f64 0 0)] [(0, 1, .t 13), (1, 1, .t 15)], none, false, false, [13, 15]⟩,
  ⟨none, .st 2 (.t 2) (.t 16), none, false, false, [16]⟩])
 (.ret)))
def rs_motion_of : List IRes := [.cell 2 (some 2)]
theorem ok_motion_of : fnOk Try.prog 45 ic_motion_of rs_motion_of 17 = true := by kernel_rfl
-- open order: two that write, 7 and 8
-- open order: two that write, 8 and 7

/-- tallyman/motion.Do -/
def ic_motion_Do : ICode :=
 .seq (.ops 0 false [⟨some 2, .box (.t 0), none, false, false, [0]⟩,
  ⟨some 3, .box (.t 1), none, false, false, [1]⟩,
  ⟨some 4, .alloc [.int .i64 0, .int .i64 0], none, false, false, []⟩])
 (.seq (.ops 1 false [⟨some 6, .ld (some 3) [] (.t 2), none, false, false, [2]⟩,
  ⟨some 7, .call (.c (.fn 45 [] [])) [.t 6], none, false, false, [6]⟩,
  ⟨some 5, .alloc [.val (.complex .f64 0 0), .val (.complex .f64 0 0)], none, false, false, []⟩,
  ⟨none, .st 2 (.t 5) (.t 7), none, false, false, [7]⟩])
 (.seq (.ops 2 true [⟨some 8, .ld (some 2) [] (.t 3), none, false, false, [3]⟩,
  ⟨some 9, .call (.c (.fn 48 [] [])) [.t 8], none, false, false, [8]⟩,
  ⟨some 10, .call (.c (.fn 47 [] [])) [.t 9], none, false, false, [9]⟩,
  ⟨some 11, .fa 0 (.t 5), none, false, false, []⟩,
  ⟨some 12, .ld none [] (.t 11), none, false, false, [11]⟩,
  ⟨some 13, .prim .cmul [.t 10, .t 12], none, false, false, [10, 12]⟩,
  ⟨some 14, .fa 1 (.t 5), none, false, false, [5]⟩,
  ⟨some 15, .ld none [] (.t 14), none, false, false, [14]⟩,
  ⟨some 16, .prim .cadd [.t 13, .t 15], none, false, false, [13, 15]⟩,
  ⟨some 17, .call (.c (.fn 46 [] [])) [.t 16], none, false, false, [16]⟩,
  ⟨none, .st 2 (.t 4) (.t 17), none, false, false, [17]⟩])
 (.ret)))
def rs_motion_Do : List IRes := [.cell 4 (some 2)]
theorem ok_motion_Do : fnOk Try.prog 27 ic_motion_Do rs_motion_Do 18 = true := by kernel_rfl

/-- tallyman/plan.unit -/
def ic_plan_unit : ICode :=
 .seq (.ops 0 false [⟨some 2, .box (.t 0), none, false, false, [0]⟩,
  ⟨some 3, .box (.t 1), none, false, false, [1]⟩,
  ⟨some 4, .mv (.c (.val (.complex .f64 0 0))), none, false, false, [4]⟩])
 (.seq (.ops 1 false [⟨some 7, .ld (some 2) [] (.t 3), none, false, false, [3]⟩,
  ⟨some 8, .ld (some 2) [] (.t 2), none, false, false, [2]⟩,
  ⟨some 9, .call (.c (.fn 52 [] [])) [.t 7, .t 8], none, false, false, [7, 8]⟩,
  ⟨some 5, .alloc [.int .i64 0, .int .i64 0], none, false, false, []⟩,
  ⟨none, .st 2 (.t 5) (.t 9), none, false, false, [9]⟩])
 (.seq (.ops 2 false [⟨some 10, .ld (some 2) [] (.t 5), none, false, false, []⟩,
  ⟨some 11, .call (.c (.fn 53 [] [])) [.t 10], none, false, false, [10]⟩,
  ⟨some 6, .mv (.t 11), none, false, false, [11]⟩])
 (.seq (.seq (.ops 3 false [⟨some 12, .mv (.t 6), none, false, false, []⟩,
  ⟨some 13, .bin .eql (.t 12) (.c (.int .i64 0)), none, false, false, [12]⟩])
 (.cond (.t 13)
  (.seq (.ops 4 false [⟨some 4, .mv (.c (.val (.complex .f64 0 0))), none, false, false, []⟩])
  (.ret))
  (.skip)))
 (.seq (.ops 5 true [⟨some 14, .fa 0 (.t 5), none, false, false, []⟩,
  ⟨some 15, .ld none [] (.t 14), none, false, false, [14]⟩,
  ⟨some 16, .mv (.t 6), none, false, false, []⟩,
  ⟨some 17, .bin .quo (.t 15) (.t 16), none, false, false, [15, 16]⟩,
  ⟨some 18, .prim .i2f [.t 17], none, false, false, [17]⟩,
  ⟨some 19, .fa 1 (.t 5), none, false, false, [5]⟩,
  ⟨some 20, .ld none [] (.t 19), none, false, false, [19]⟩,
  ⟨some 21, .mv (.t 6), none, false, false, [6]⟩,
  ⟨some 22, .bin .quo (.t 20) (.t 21), none, false, false, [20, 21]⟩,
  ⟨some 23, .prim .i2f [.t 22], none, false, false, [22]⟩,
  ⟨some 24, .prim .cplx [.t 18, .t 23], none, false, false, [18, 23]⟩,
  ⟨some 4, .mv (.t 24), none, false, false, [24]⟩])
 (.ret)))))
def rs_plan_unit : List IRes := [.t 4]
theorem ok_plan_unit : fnOk Try.prog 37 ic_plan_unit rs_plan_unit 25 = true := by kernel_rfl

/-- tallyman/plan.Route -/
def ic_plan_Route : ICode :=
 .seq (.ops 0 false [⟨some 3, .box (.t 0), none, false, false, [0]⟩,
  ⟨some 4, .box (.t 1), none, false, false, [1]⟩,
  ⟨some 6, .mv (.c (.nils)), none, false, false, [6]⟩])
 (.seq (.ops 1 false [⟨some 16, .ld (some 2) [] (.t 3), none, false, false, [3]⟩,
  ⟨some 17, .ld (some 2) [] (.t 4), none, false, false, [4]⟩,
  ⟨some 18, .mv (.t 2), none, false, false, [2]⟩,
  ⟨some 19, .call (.c (.fn 36 [] [])) [.t 16, .t 17, .t 18], none, false, false, [16, 17, 18]⟩,
  ⟨some 15, .mv (.t 19), none, false, false, [19]⟩,
  ⟨some 20, .ext 0 (.t 15), none, false, false, []⟩,
  ⟨some 21, .ext 1 (.t 15), none, false, false, []⟩,
  ⟨some 22, .ext 2 (.t 15), none, false, false, [15]⟩,
  ⟨some 7, .alloc [.int .i64 0, .int .i64 0], none, false, false, []⟩,
  ⟨some 8, .alloc [.int .i64 0, .int .i64 0], none, false, false, []⟩,
  ⟨some 9, .alloc [.int .i64 0, .int .i64 0], none, false, false, []⟩,
  ⟨none, .st 2 (.t 7) (.t 20), none, false, false, [20]⟩,
  ⟨none, .st 2 (.t 8) (.t 21), none, false, false, [21]⟩,
  ⟨none, .st 2 (.t 9) (.t 22), none, false, false, [22]⟩])
 (.seq (.ops 2 false [⟨some 23, .ld (some 2) [] (.t 7), none, false, false, []⟩,
  ⟨some 24, .rowOwn 2 [.t 23], none, false, false, [23]⟩,
  ⟨some 10, .mv (.t 24), none, false, false, [24]⟩])
 (.seq (.ops 3 false [⟨some 25, .fa 0 (.t 7), none, false, false, []⟩,
  ⟨some 26, .ld none [] (.t 25), none, false, false, [25]⟩,
  ⟨some 27, .prim .i2f [.t 26], none, false, false, [26]⟩,
  ⟨some 28, .fa 1 (.t 7), none, false, false, [7]⟩,
  ⟨some 29, .ld none [] (.t 28), none, false, false, [28]⟩,
  ⟨some 30, .prim .i2f [.t 29], none, false, false, [29]⟩,
  ⟨some 31, .prim .cplx [.t 27, .t 30], none, false, false, [27, 30]⟩,
  ⟨some 11, .mv (.t 31), none, false, false, [31]⟩])
 (.seq (.seq (.ops 4 false [⟨some 32, .ld (some 2) [] (.t 8), none, false, false, [8]⟩,
  ⟨some 33, .ld (some 2) [] (.t 9), none, false, false, [9]⟩,
  ⟨some 34, .build [.int .i64 0, .int .i64 0, .int .i64 0, .int .i64 0] [(0, 2, .t 32), (2, 2, .t 33)], none, false, false, [32, 33]⟩,
  ⟨some 35, .mv (.c (.int .i64 0)), none, false, false, []⟩])
 (.block 0 (.loop [10, 11, 34, 35] (.seq (.ops 5 false [⟨some 36, .bin .lss (.t 35) (.c (.int .i64 2)), none, false, false, []⟩])
   (.seq (.cond (.t 36)
    (.skip)
    (.exit 0))
   (.seq (.block 1 (.seq (.ops 6 false [⟨some 37, .prim (.idx (some 2) 2 2) [.t 34, .t 35], none, false, false, []⟩,
     ⟨some 13, .alloc [.int .i64 0, .int .i64 0], none, false, false, []⟩,
     ⟨none, .st 2 (.t 13) (.t 37), none, false, false, [37]⟩])
    (.seq (.ops 7 true [⟨some 38, .mv (.t 10), none, false, false, []⟩,
     ⟨some 39, .mv (.t 10), none, false, false, []⟩,
     ⟨some 40, .len (.t 39), none, false, false, [39]⟩,
     ⟨some 41, .bin .sub (.t 40) (.c (.int .i64 1)), none, false, false, [40]⟩,
     ⟨some 42, .ia 2 [.int .i64 0, .int .i64 0] (.t 38) (.t 41), none, false, false, [38, 41]⟩,
     ⟨some 43, .ld (some 2) [.int .i64 0, .int .i64 0] (.t 42), none, false, false, [42]⟩,
     ⟨some 44, .ld (some 2) [] (.t 13), none, false, false, []⟩,
     ⟨some 45, .call (.c (.fn 37 [] [])) [.t 43, .t 44], none, false, false, [43, 44]⟩,
     ⟨some 14, .mv (.t 45), none, false, false, [45]⟩])
    (.block 2 (.loop [10, 11, 13, 14, 34, 35] (.seq (.seq (.ops 8 true [⟨some 46, .mv (.t 10), none, false, false, []⟩,
       ⟨some 47, .mv (.t 10), none, false, false, []⟩,
       ⟨some 48, .len (.t 47), none, false, false, [47]⟩,
       ⟨some 49, .bin .sub (.t 48) (.c (.int .i64 1)), none, false, false, [48]⟩,
       ⟨some 50, .ia 2 [.int .i64 0, .int .i64 0] (.t 46) (.t 49), none, false, false, [46, 49]⟩,
       ⟨some 51, .ld (some 2) [.int .i64 0, .int .i64 0] (.t 50), none, false, false, [50]⟩,
       ⟨some 52, .ld (some 2) [] (.t 13), none, false, false, []⟩,
       ⟨some 53, .eqc true [false, false] (.t 51) (.t 52), none, false, false, [51, 52]⟩])
      (.cond (.t 53)
       (.skip)
       (.exit 2)))
      (.block 3 (.seq (.ops 9 false [⟨some 54, .mv (.t 11), none, false, false, [11]⟩,
        ⟨some 55, .mv (.t 14), none, false, false, []⟩,
        ⟨some 56, .prim .cadd [.t 54, .t 55], none, false, false, [54, 55]⟩,
        ⟨some 11, .mv (.t 56), none, false, false, [56]⟩])
       (.ops 10 false [⟨some 57, .mv (.t 10), none, false, false, [10]⟩,
        ⟨some 58, .mv (.t 11), none, false, false, []⟩,
        ⟨some 59, .prim .re [.t 58], none, false, false, [58]⟩,
        ⟨some 60, .prim .f2i [.t 59], none, false, false, [59]⟩,
        ⟨some 61, .mv (.t 11), none, false, false, []⟩,
        ⟨some 62, .prim .im [.t 61], none, false, false, [61]⟩,
        ⟨some 63, .prim .f2i [.t 62], none, false, false, [62]⟩,
        ⟨some 64, .build [.int .i64 0, .int .i64 0] [(0, 1, .t 60), (1, 1, .t 63)], none, false, false, [60, 63]⟩,
        ⟨some 65, .rowView 2 [.t 64], none, false, false, [64]⟩,
        ⟨some 66, .app 2 (.t 57) (.t 65), none, false, false, [57, 65]⟩,
        ⟨some 10, .mv (.t 66), none, false, false, [66]⟩])))))))))
   (.ops 11 false [⟨some 67, .bin .add (.t 35) (.c (.int .i64 1)), none, false, false, [35]⟩,
    ⟨some 35, .mv (.t 67), none, false, false, [67]⟩])))))))
 (.seq (.ops 12 false [⟨some 68, .mv (.t 10), none, false, false, [10]⟩,
  ⟨some 6, .mv (.t 68), none, false, false, [68]⟩])
 (.ret))))))
def rs_plan_Route : List IRes := [.t 6]
theorem ok_plan_Route : fnOk Try.prog 16 ic_plan_Route rs_plan_Route 69 = true := by kernel_rfl

/-- tallyman/plan.Moved -/
def ic_plan_Moved : ICode :=
 .seq (.ops 0 false [⟨some 2, .box (.t 0), none, false, false, [0]⟩,
  ⟨some 4, .mv (.c (.nils)), none, false, false, [4]⟩])
 (.seq (.ops 1 false [⟨some 5, .mv (.c (.nils)), none, false, false, []⟩])
 (.seq (.seq (.ops 2 false [⟨some 9, .mv (.t 1), none, false, false, [1]⟩,
  ⟨some 10, .len (.t 9), none, false, false, []⟩,
  ⟨some 11, .mv (.c (.int .i64 0)), none, false, false, []⟩])
 (.block 0 (.loop [2, 5, 9, 10, 11] (.seq (.ops 3 false [⟨some 12, .bin .lss (.t 11) (.t 10), none, false, false, []⟩])
   (.seq (.cond (.t 12)
    (.skip)
    (.exit 0))
   (.seq (.block 1 (.seq (.ops 4 false [⟨some 13, .ia 5 [.int .i64 0, .int .i64 0, .int .i64 0, .int .i64 0, .int .i64 0] (.t 9) (.t 11), none, false, false, []⟩,
     ⟨some 14, .ld (some 5) [.int .i64 0, .int .i64 0, .int .i64 0, .int .i64 0, .int .i64 0] (.t 13), none, false, false, [13]⟩,
     ⟨some 7, .alloc [.int .i64 0, .int .i64 0, .int .i64 0, .int .i64 0, .int .i64 0], none, false, false, []⟩,
     ⟨none, .st 5 (.t 7) (.t 14), none, false, false, [14]⟩])
    (.seq (.ops 5 true [⟨some 15, .ld (some 3) [] (.t 2), none, false, true, []⟩,
     ⟨some 16, .fa 1 (.t 7), none, false, true, []⟩,
     ⟨some 17, .ld (some 2) [] (.t 16), none, false, true, [16]⟩,
     ⟨some 18, .call (.c (.fn 27 [] [])) [.t 15, .t 17], none, false, true, [15, 17]⟩,
     ⟨some 19, .ld (some 3) [] (.t 2), none, false, true, []⟩,
     ⟨some 20, .fa 3 (.t 7), none, false, true, []⟩,
     ⟨some 21, .ld (some 2) [] (.t 20), none, false, true, [20]⟩,
     ⟨some 22, .call (.c (.fn 27 [] [])) [.t 19, .t 21], none, false, true, [19, 21]⟩,
     ⟨some 23, .call (.c (.fn 40 [] [])) [.t 18, .t 22], none, false, true, [18, 22]⟩,
     ⟨some 8, .alloc [.int .i64 0, .int .i64 0, .int .i64 0, .int .i64 0, .int .i64 0], none, false, false, []⟩,
     ⟨none, .st 5 (.t 8) (.t 23), none, false, false, [23]⟩])
    (.seq (.ops 6 false [⟨some 24, .fa 0 (.t 7), none, false, false, [7]⟩,
     ⟨some 25, .ld none [] (.t 24), none, false, false, [24]⟩,
     ⟨some 26, .fa 0 (.t 8), none, false, false, []⟩,
     ⟨none, .st 1 (.t 26) (.t 25), none, false, false, [25, 26]⟩])
    (.ops 7 false [⟨some 27, .mv (.t 5), none, false, false, [5]⟩,
     ⟨some 28, .ld (some 5) [] (.t 8), none, false, false, [8]⟩,
     ⟨some 29, .rowView 5 [.t 28], none, false, false, [28]⟩,
     ⟨some 30, .app 5 (.t 27) (.t 29), none, false, false, [27, 29]⟩,
     ⟨some 5, .mv (.t 30), none, false, false, [30]⟩])))))
   (.ops 8 false [⟨some 31, .bin .add (.t 11) (.c (.int .i64 1)), none, false, false, [11]⟩,
    ⟨some 11, .mv (.t 31), none, false, false, [31]⟩])))))))
 (.seq (.ops 9 false [⟨some 32, .mv (.t 5), none, false, false, [5]⟩,
  ⟨some 4, .mv (.t 32), none, false, false, [32]⟩])
 (.ret))))
def rs_plan_Moved : List IRes := [.t 4]
theorem ok_plan_Moved : fnOk Try.prog 22 ic_plan_Moved rs_plan_Moved 33 = true := by kernel_rfl

/-- tallyman/tallymanref03.part -/
def ic_r03_part : ICode :=
 .seq (.ops 0 false [⟨some 2, .mv (.c (.int .i64 0)), none, false, false, [2]⟩])
 (.seq (.ops 1 false [⟨some 3, .mv (.t 0), none, false, false, [0]⟩,
  ⟨some 4, .call (.c (.fn 54 [] [])) [.t 3, .c (.int .i64 (-1048576)), .c (.int .i64 1048576)], none, false, false, [3]⟩,
  ⟨some 2, .mv (.t 4), none, false, false, [4]⟩])
 (.ret))
def rs_r03_part : List IRes := [.t 2]
theorem ok_r03_part : fnOk Try.prog 62 ic_r03_part rs_r03_part 5 = true := by kernel_rfl

/-- tallyman/tallymanref03.Fix -/
def ic_r03_Fix : ICode :=
 .seq (.ops 0 false [⟨some 1, .box (.t 0), none, false, false, [0]⟩,
  ⟨some 2, .alloc [.int .i64 0, .int .i64 0], none, false, false, []⟩])
 (.seq (.ops 1 true [⟨some 3, .fa 0 (.t 1), none, false, false, []⟩,
  ⟨some 4, .ld none [] (.t 3), none, false, false, [3]⟩,
  ⟨some 5, .call (.c (.fn 62 [] [])) [.t 4], none, false, false, [4]⟩,
  ⟨some 6, .fa 1 (.t 1), none, false, false, [1]⟩,
  ⟨some 7, .ld none [] (.t 6), none, false, false, [6]⟩,
  ⟨some 8, .call (.c (.fn 62 [] [])) [.t 7], none, false, false, [7]⟩,
  ⟨some 9, .build [.int .i64 0, .int .i64 0] [(0, 1, .t 5), (1, 1, .t 8)], none, false, false, [5, 8]⟩,
  ⟨none, .st 2 (.t 2) (.t 9), none, false, false, [9]⟩])
 (.ret))
def rs_r03_Fix : List IRes := [.cell 2 (some 2)]
theorem ok_r03_Fix : fnOk Try.prog 49 ic_r03_Fix rs_r03_Fix 10 = true := by kernel_rfl

/-- tallyman/tallymanref03.Add -/
def ic_r03_Add : ICode :=
 .seq (.ops 0 false [⟨some 2, .box (.t 0), none, false, false, [0]⟩,
  ⟨some 3, .box (.t 1), none, false, false, [1]⟩,
  ⟨some 4, .alloc [.int .i64 0, .int .i64 0], none, false, false, []⟩])
 (.seq (.ops 1 true [⟨some 7, .ld (some 2) [] (.t 2), none, false, true, [2]⟩,
  ⟨some 8, .call (.c (.fn 49 [] [])) [.t 7], none, false, true, [7]⟩,
  ⟨some 9, .ld (some 2) [] (.t 3), none, false, true, [3]⟩,
  ⟨some 10, .call (.c (.fn 49 [] [])) [.t 9], none, false, true, [9]⟩,
  ⟨some 5, .alloc [.int .i64 0, .int .i64 0], none, false, false, []⟩,
  ⟨some 6, .alloc [.int .i64 0, .int .i64 0], none, false, false, []⟩,
  ⟨none, .st 2 (.t 5) (.t 8), none, false, false, [8]⟩,
  ⟨none, .st 2 (.t 6) (.t 10), none, false, false, [10]⟩])
 (.seq (.ops 2 false [⟨some 11, .fa 0 (.t 5), none, false, false, []⟩,
  ⟨some 12, .ld none [] (.t 11), none, false, false, [11]⟩,
  ⟨some 13, .fa 0 (.t 6), none, false, false, []⟩,
  ⟨some 14, .ld none [] (.t 13), none, false, false, [13]⟩,
  ⟨some 15, .bin .add (.t 12) (.t 14), none, false, false, [12, 14]⟩,
  ⟨some 16, .fa 1 (.t 5), none, false, false, [5]⟩,
  ⟨some 17, .ld none [] (.t 16), none, false, false, [16]⟩,
  ⟨some 18, .fa 1 (.t 6), none, false, false, [6]⟩,
  ⟨some 19, .ld none [] (.t 18), none, false, false, [18]⟩,
  ⟨some 20, .bin .add (.t 17) (.t 19), none, false, false, [17, 19]⟩,
  ⟨some 21, .build [.int .i64 0, .int .i64 0] [(0, 1, .t 15), (1, 1, .t 20)], none, false, false, [15, 20]⟩,
  ⟨none, .st 2 (.t 4) (.t 21), none, false, false, [21]⟩])
 (.ret)))
def rs_r03_Add : List IRes := [.cell 4 (some 2)]
theorem ok_r03_Add : fnOk Try.prog 57 ic_r03_Add rs_r03_Add 22 = true := by kernel_rfl
-- open order: two that write, 4 and 5
-- open order: two that write, 5 and 4

/-- tallyman/tallymanref03.Quarter -/
def ic_r03_Quarter : ICode :=
 .seq (.ops 0 false [⟨some 2, .mv (.c (.int .i64 0)), none, false, false, [2]⟩])
 (.seq (.seq (.ops 1 false [⟨some 3, .mv (.t 0), none, false, false, []⟩,
  ⟨some 4, .bin .rem (.t 3) (.c (.int .i64 4)), none, false, false, [3]⟩,
  ⟨some 5, .bin .lss (.t 4) (.c (.int .i64 0)), none, false, false, [4]⟩])
 (.cond (.t 5)
  (.seq (.ops 2 false [⟨some 6, .mv (.t 0), none, false, false, [0]⟩,
   ⟨some 7, .bin .rem (.t 6) (.c (.int .i64 4)), none, false, false, [6]⟩,
   ⟨some 8, .bin .add (.t 7) (.c (.int .i64 4)), none, false, false, [7]⟩,
   ⟨some 2, .mv (.t 8), none, false, false, [8]⟩])
  (.ret))
  (.skip)))
 (.seq (.ops 3 false [⟨some 9, .mv (.t 0), none, false, false, [0]⟩,
  ⟨some 10, .bin .rem (.t 9) (.c (.int .i64 4)), none, false, false, [9]⟩,
  ⟨some 2, .mv (.t 10), none, false, false, [10]⟩])
 (.ret)))
def rs_r03_Quarter : List IRes := [.t 2]
theorem ok_r03_Quarter : fnOk Try.prog 75 ic_r03_Quarter rs_r03_Quarter 11 = true := by kernel_rfl

/-- tallyman/tallymanref03.Turn -/
def ic_r03_Turn : ICode :=
 .seq (.ops 0 false [⟨some 2, .box (.t 0), none, false, false, [0]⟩,
  ⟨some 4, .alloc [.int .i64 0, .int .i64 0], none, false, false, []⟩])
 (.seq (.ops 1 false [⟨some 6, .ld (some 2) [] (.t 2), none, false, false, [2]⟩,
  ⟨some 7, .call (.c (.fn 49 [] [])) [.t 6], none, false, false, [6]⟩,
  ⟨some 5, .alloc [.int .i64 0, .int .i64 0], none, false, false, []⟩,
  ⟨none, .st 2 (.t 5) (.t 7), none, false, false, [7]⟩])
 (.seq (.seq (.ops 2 false [⟨some 8, .mv (.t 1), none, false, false, [1]⟩,
  ⟨some 9, .call (.c (.fn 75 [] [])) [.t 8], none, false, false, [8]⟩])
 (.block 0 (.seq (.ops 3 false [⟨some 11, .bin .eql (.t 9) (.c (.int .i64 1)), none, false, false, []⟩,
   ⟨some 10, .mv (.t 11), none, false, false, [11]⟩])
  (.cond (.t 10)
   (.seq (.ops 4 false [⟨some 12, .fa 1 (.t 5), none, false, false, []⟩,
    ⟨some 13, .ld none [] (.t 12), none, false, false, [12]⟩,
    ⟨some 14, .neg (.t 13), none, false, false, [13]⟩,
    ⟨some 15, .fa 0 (.t 5), none, false, false, [5]⟩,
    ⟨some 16, .ld none [] (.t 15), none, false, false, [15]⟩,
    ⟨some 17, .build [.int .i64 0, .int .i64 0] [(0, 1, .t 14), (1, 1, .t 16)], none, false, false, [14, 16]⟩,
    ⟨none, .st 2 (.t 4) (.t 17), none, false, false, [17]⟩])
   (.ret))
   (.seq (.ops 5 false [⟨some 19, .bin .eql (.t 9) (.c (.int .i64 2)), none, false, false, []⟩,
    ⟨some 18, .mv (.t 19), none, false, false, [19]⟩])
   (.cond (.t 18)
    (.seq (.ops 6 false [⟨some 20, .fa 0 (.t 5), none, false, false, []⟩,
     ⟨some 21, .ld none [] (.t 20), none, false, false, [20]⟩,
     ⟨some 22, .neg (.t 21), none, false, false, [21]⟩,
     ⟨some 23, .fa 1 (.t 5), none, false, false, [5]⟩,
     ⟨some 24, .ld none [] (.t 23), none, false, false, [23]⟩,
     ⟨some 25, .neg (.t 24), none, false, false, [24]⟩,
     ⟨some 26, .build [.int .i64 0, .int .i64 0] [(0, 1, .t 22), (1, 1, .t 25)], none, false, false, [22, 25]⟩,
     ⟨none, .st 2 (.t 4) (.t 26), none, false, false, [26]⟩])
    (.ret))
    (.seq (.ops 7 false [⟨some 28, .bin .eql (.t 9) (.c (.int .i64 3)), none, false, false, [9]⟩,
     ⟨some 27, .mv (.t 28), none, false, false, [28]⟩])
    (.cond (.t 27)
     (.seq (.ops 8 false [⟨some 29, .fa 1 (.t 5), none, false, false, []⟩,
      ⟨some 30, .ld none [] (.t 29), none, false, false, [29]⟩,
      ⟨some 31, .fa 0 (.t 5), none, false, false, [5]⟩,
      ⟨some 32, .ld none [] (.t 31), none, false, false, [31]⟩,
      ⟨some 33, .neg (.t 32), none, false, false, [32]⟩,
      ⟨some 34, .build [.int .i64 0, .int .i64 0] [(0, 1, .t 30), (1, 1, .t 33)], none, false, false, [30, 33]⟩,
      ⟨none, .st 2 (.t 4) (.t 34), none, false, false, [34]⟩])
     (.ret))
     (.skip)))))))))
 (.seq (.ops 9 false [⟨some 35, .ld (some 2) [] (.t 5), none, false, false, [5]⟩,
  ⟨none, .st 2 (.t 4) (.t 35), none, false, false, [35]⟩])
 (.ret))))
def rs_r03_Turn : List IRes := [.cell 4 (some 2)]
theorem ok_r03_Turn : fnOk Try.prog 58 ic_r03_Turn rs_r03_Turn 36 = true := by kernel_rfl

/-- tallyman/tallymanref03.size -/
def ic_r03_size : ICode :=
 .seq (.ops 0 false [⟨some 2, .mv (.c (.int .i64 0)), none, false, false, [2]⟩])
 (.seq (.ops 1 false [⟨some 3, .mv (.t 0), none, false, false, []⟩,
  ⟨some 4, .mv (.t 0), none, false, false, [0]⟩,
  ⟨some 5, .neg (.t 4), none, false, false, [4]⟩,
  ⟨some 6, .mx [.t 3, .t 5], none, false, false, [3, 5]⟩,
  ⟨some 2, .mv (.t 6), none, false, false, [6]⟩])
 (.ret))
def rs_r03_size : List IRes := [.t 2]
theorem ok_r03_size : fnOk Try.prog 50 ic_r03_size rs_r03_size 7 = true := by kernel_rfl

/-- tallyman/tallymanref03.Steps -/
def ic_r03_Steps : ICode :=
 .seq (.ops 0 false [⟨some 1, .box (.t 0), none, false, false, [0]⟩,
  ⟨some 2, .mv (.c (.int .i64 0)), none, false, false, [2]⟩])
 (.seq (.ops 1 false [⟨some 4, .ld (some 2) [] (.t 1), none, false, false, [1]⟩,
  ⟨some 5, .call (.c (.fn 49 [] [])) [.t 4], none, false, false, [4]⟩,
  ⟨some 3, .alloc [.int .i64 0, .int .i64 0], none, false, false, []⟩,
  ⟨none, .st 2 (.t 3) (.t 5), none, false, false, [5]⟩])
 (.seq (.ops 2 true [⟨some 6, .fa 0 (.t 3), none, false, false, []⟩,
  ⟨some 7, .ld none [] (.t 6), none, false, false, [6]⟩,
  ⟨some 8, .call (.c (.fn 50 [] [])) [.t 7], none, false, false, [7]⟩,
  ⟨some 9, .fa 1 (.t 3), none, false, false, [3]⟩,
  ⟨some 10, .ld none [] (.t 9), none, false, false, [9]⟩,
  ⟨some 11, .call (.c (.fn 50 [] [])) [.t 10], none, false, false, [10]⟩,
  ⟨some 12, .bin .add (.t 8) (.t 11), none, false, false, [8, 11]⟩,
  ⟨some 2, .mv (.t 12), none, false, false, [12]⟩])
 (.ret)))
def rs_r03_Steps : List IRes := [.t 2]
theorem ok_r03_Steps : fnOk Try.prog 28 ic_r03_Steps rs_r03_Steps 13 = true := by kernel_rfl

/-- tallyman/tallymanref04.Do -/
def ic_r04_Do : ICode :=
 .seq (.ops 0 false [⟨some 2, .box (.t 0), none, false, false, [0]⟩,
  ⟨some 3, .box (.t 1), none, false, false, [1]⟩,
  ⟨some 4, .alloc [.int .i64 0, .int .i64 0], none, false, false, []⟩])
 (.seq (.ops 1 true [⟨some 5, .ld (some 2) [] (.t 3), none, false, false, [3]⟩,
  ⟨some 6, .fa 0 (.t 2), none, false, false, []⟩,
  ⟨some 7, .ld none [] (.t 6), none, false, false, [6]⟩,
  ⟨some 8, .call (.c (.fn 58 [] [])) [.t 5, .t 7], none, false, false, [5, 7]⟩,
  ⟨some 9, .fa 1 (.t 2), none, false, false, [2]⟩,
  ⟨some 10, .ld (some 2) [] (.t 9), none, false, false, [9]⟩,
  ⟨some 11, .call (.c (.fn 57 [] [])) [.t 8, .t 10], none, false, false, [8, 10]⟩,
  ⟨none, .st 2 (.t 4) (.t 11), none, false, false, [11]⟩])
 (.ret))
def rs_r04_Do : List IRes := [.cell 4 (some 2)]
theorem ok_r04_Do : fnOk Try.prog 44 ic_r04_Do rs_r04_Do 12 = true := by kernel_rfl

/-- tallyman/tallymanref04.Small -/
def ic_r04_Small : ICode :=
 .seq (.ops 0 false [⟨some 2, .box (.t 0), none, false, false, [0]⟩,
  ⟨some 4, .mv (.c (.bool false)), none, false, false, [4]⟩])
 (.seq (.ops 1 false [⟨some 5, .fa 1 (.t 2), none, false, false, [2]⟩,
  ⟨some 6, .ld (some 2) [] (.t 5), none, false, false, [5]⟩,
  ⟨some 7, .mv (.t 1), none, false, false, [1]⟩,
  ⟨some 8, .call (.c (.fn 26 [] [])) [.t 6, .t 7], none, false, false, [6, 7]⟩,
  ⟨some 4, .mv (.t 8), none, false, false, [8]⟩])
 (.ret))
def rs_r04_Small : List IRes := [.t 4]
theorem ok_r04_Small : fnOk Try.prog 25 ic_r04_Small rs_r04_Small 9 = true := by kernel_rfl

/-- tallyman/tallymanref05.Points -/
def ic_r05_Points : ICode :=
 .seq (.ops 0 false [⟨some 4, .mv (.c (.bool false)), none, false, false, [4]⟩])
 (.seq (.seq (.ops 1 false [⟨some 6, .mv (.t 0), none, false, false, []⟩,
  ⟨some 7, .len (.t 6), none, false, false, [6]⟩,
  ⟨some 8, .mv (.t 1), none, false, false, []⟩,
  ⟨some 9, .len (.t 8), none, false, false, [8]⟩,
  ⟨some 10, .bin .neq (.t 7) (.t 9), none, false, false, [7, 9]⟩])
 (.cond (.t 10)
  (.seq (.ops 2 false [⟨some 4, .mv (.c (.bool false)), none, false, false, []⟩])
  (.ret))
  (.skip)))
 (.seq (.seq (.ops 3 false [⟨some 5, .mv (.c (.int .i64 0)), none, false, false, []⟩])
 (.block 0 (.loop [0, 1, 5] (.seq (.seq (.ops 4 false [⟨some 11, .mv (.t 5), none, false, false, []⟩,
    ⟨some 12, .mv (.t 0), none, false, false, []⟩,
    ⟨some 13, .len (.t 12), none, false, false, [12]⟩,
    ⟨some 14, .bin .lss (.t 11) (.t 13), none, false, false, [11, 13]⟩])
   (.cond (.t 14)
    (.skip)
    (.exit 0)))
   (.seq (.block 1 (.seq (.ops 6 true [⟨some 17, .mv (.t 0), none, false, false, []⟩,
     ⟨some 18, .mv (.t 5), none, false, false, []⟩,
     ⟨some 19, .ia 2 [.int .i64 0, .int .i64 0] (.t 17) (.t 18), none, false, false, [17, 18]⟩,
     ⟨some 20, .ld (some 2) [.int .i64 0, .int .i64 0] (.t 19), none, false, false, [19]⟩,
     ⟨some 21, .mv (.t 1), none, false, false, []⟩,
     ⟨some 22, .mv (.t 5), none, false, false, []⟩,
     ⟨some 23, .ia 2 [.int .i64 0, .int .i64 0] (.t 21) (.t 22), none, false, false, [21, 22]⟩,
     ⟨some 24, .ld (some 2) [.int .i64 0, .int .i64 0] (.t 23), none, false, false, [23]⟩,
     ⟨some 25, .eqc true [false, false] (.t 20) (.t 24), none, false, false, [20, 24]⟩])
    (.cond (.t 25)
     (.seq (.ops 7 false [⟨some 4, .mv (.c (.bool false)), none, false, false, []⟩])
     (.ret))
     (.skip))))
   (.ops 5 false [⟨some 15, .mv (.t 5), none, false, false, [5]⟩,
    ⟨some 16, .bin .add (.t 15) (.c (.int .i64 1)), none, false, false, [15]⟩,
    ⟨some 5, .mv (.t 16), none, false, false, [16]⟩]))))))
 (.seq (.ops 8 false [⟨some 4, .mv (.c (.bool true)), none, false, false, []⟩])
 (.ret))))
def rs_r05_Points : List IRes := [.t 4]
theorem ok_r05_Points : fnOk Try.prog 15 ic_r05_Points rs_r05_Points 26 = true := by kernel_rfl

/-- tallyman/tallymanref07.Moved -/
def ic_r07_Moved : ICode :=
 .seq (.ops 0 false [⟨some 2, .box (.t 0), none, false, false, [0]⟩,
  ⟨some 4, .mv (.c (.nils)), none, false, false, [4]⟩])
 (.seq (.ops 1 false [⟨some 5, .mv (.c (.nils)), none, false, false, []⟩])
 (.seq (.seq (.ops 2 false [⟨some 6, .mv (.c (.int .i64 0)), none, false, false, []⟩])
 (.block 0 (.loop [1, 2, 5, 6] (.seq (.seq (.ops 3 false [⟨some 9, .mv (.t 6), none, false, false, []⟩,
    ⟨some 10, .mv (.t 1), none, false, false, []⟩,
    ⟨some 11, .len (.t 10), none, false, false, [10]⟩,
    ⟨some 12, .bin .lss (.t 9) (.t 11), none, false, false, [9, 11]⟩])
   (.cond (.t 12)
    (.skip)
    (.exit 0)))
   (.seq (.block 1 (.seq (.ops 5 true [⟨some 15, .ld (some 3) [] (.t 2), none, false, true, []⟩,
     ⟨some 16, .mv (.t 1), none, false, false, []⟩,
     ⟨some 17, .mv (.t 6), none, false, false, []⟩,
     ⟨some 18, .ia 5 [.int .i64 0, .int .i64 0, .int .i64 0, .int .i64 0, .int .i64 0] (.t 16) (.t 17), none, false, true, [16, 17]⟩,
     ⟨some 19, .fa 1 (.t 18), none, false, true, [18]⟩,
     ⟨some 20, .ld (some 2) [.int .i64 0, .int .i64 0, .int .i64 0, .int .i64 0, .int .i64 0] (.t 19), none, false, true, [19]⟩,
     ⟨some 21, .call (.c (.fn 44 [] [])) [.t 15, .t 20], none, false, true, [15, 20]⟩,
     ⟨some 22, .ld (some 3) [] (.t 2), none, false, true, []⟩,
     ⟨some 23, .mv (.t 1), none, false, false, []⟩,
     ⟨some 24, .mv (.t 6), none, false, false, []⟩,
     ⟨some 25, .ia 5 [.int .i64 0, .int .i64 0, .int .i64 0, .int .i64 0, .int .i64 0] (.t 23) (.t 24), none, false, true, [23, 24]⟩,
     ⟨some 26, .fa 3 (.t 25), none, false, true, [25]⟩,
     ⟨some 27, .ld (some 2) [.int .i64 0, .int .i64 0, .int .i64 0, .int .i64 0, .int .i64 0] (.t 26), none, false, true, [26]⟩,
     ⟨some 28, .call (.c (.fn 44 [] [])) [.t 22, .t 27], none, false, true, [22, 27]⟩,
     ⟨some 7, .alloc [.int .i64 0, .int .i64 0], none, false, false, []⟩,
     ⟨some 8, .alloc [.int .i64 0, .int .i64 0], none, false, false, []⟩,
     ⟨none, .st 2 (.t 7) (.t 21), none, false, false, [21]⟩,
     ⟨none, .st 2 (.t 8) (.t 28), none, false, false, [28]⟩])
    (.ops 6 true [⟨some 29, .mv (.t 5), none, false, false, [5]⟩,
     ⟨some 30, .mv (.t 1), none, false, false, []⟩,
     ⟨some 31, .mv (.t 6), none, false, false, []⟩,
     ⟨some 32, .ia 5 [.int .i64 0, .int .i64 0, .int .i64 0, .int .i64 0, .int .i64 0] (.t 30) (.t 31), none, false, false, [30, 31]⟩,
     ⟨some 33, .fa 0 (.t 32), none, false, false, [32]⟩,
     ⟨some 34, .ld none [.int .i64 0, .int .i64 0, .int .i64 0, .int .i64 0, .int .i64 0] (.t 33), none, false, false, [33]⟩,
     ⟨some 35, .fa 0 (.t 7), none, false, false, []⟩,
     ⟨some 36, .ld none [] (.t 35), none, false, false, [35]⟩,
     ⟨some 37, .fa 0 (.t 8), none, false, false, []⟩,
     ⟨some 38, .ld none [] (.t 37), none, false, false, [37]⟩,
     ⟨some 39, .mn [.t 36, .t 38], none, false, false, [36, 38]⟩,
     ⟨some 40, .fa 1 (.t 7), none, false, false, []⟩,
     ⟨some 41, .ld none [] (.t 40), none, false, false, [40]⟩,
     ⟨some 42, .fa 1 (.t 8), none, false, false, []⟩,
     ⟨some 43, .ld none [] (.t 42), none, false, false, [42]⟩,
     ⟨some 44, .mn [.t 41, .t 43], none, false, false, [41, 43]⟩,
     ⟨some 45, .build [.int .i64 0, .int .i64 0] [(0, 1, .t 39), (1, 1, .t 44)], none, false, false, [39, 44]⟩,
     ⟨some 46, .fa 0 (.t 7), none, false, false, []⟩,
     ⟨some 47, .ld none [] (.t 46), none, false, false, [46]⟩,
     ⟨some 48, .fa 0 (.t 8), none, false, false, []⟩,
     ⟨some 49, .ld none [] (.t 48), none, false, false, [48]⟩,
     ⟨some 50, .mx [.t 47, .t 49], none, false, false, [47, 49]⟩,
     ⟨some 51, .fa 1 (.t 7), none, false, false, [7]⟩,
     ⟨some 52, .ld none [] (.t 51), none, false, false, [51]⟩,
     ⟨some 53, .fa 1 (.t 8), none, false, false, [8]⟩,
     ⟨some 54, .ld none [] (.t 53), none, false, false, [53]⟩,
     ⟨some 55, .mx [.t 52, .t 54], none, false, false, [52, 54]⟩,
     ⟨some 56, .build [.int .i64 0, .int .i64 0] [(0, 1, .t 50), (1, 1, .t 55)], none, false, false, [50, 55]⟩,
     ⟨some 57, .build [.int .i64 0, .int .i64 0, .int .i64 0, .int .i64 0, .int .i64 0] [(0, 1, .t 34), (1, 2, .t 45), (3, 2, .t 56)], none, false, false, [34, 45, 56]⟩,
     ⟨some 58, .rowView 5 [.t 57], none, false, false, [57]⟩,
     ⟨some 59, .app 5 (.t 29) (.t 58), none, false, false, [29, 58]⟩,
     ⟨some 5, .mv (.t 59), none, false, false, [59]⟩])))
   (.ops 4 false [⟨some 13, .mv (.t 6), none, false, false, [6]⟩,
    ⟨some 14, .bin .add (.t 13) (.c (.int .i64 1)), none, false, false, [13]⟩,
    ⟨some 6, .mv (.t 14), none, false, false, [14]⟩]))))))
 (.seq (.ops 7 false [⟨some 60, .mv (.t 5), none, false, false, [5]⟩,
  ⟨some 4, .mv (.t 60), none, false, false, [60]⟩])
 (.ret))))
def rs_r07_Moved : List IRes := [.t 4]
theorem ok_r07_Moved : fnOk Try.prog 23 ic_r07_Moved rs_r07_Moved 61 = true := by kernel_rfl
-- open order: two that write, 14 and 15
-- open order: two that write, 15 and 14

/-- tallyman/tallymanref07.Small -/
def ic_r07_Small : ICode :=
 .seq (.ops 0 false [⟨some 4, .mv (.c (.bool false)), none, false, false, [4]⟩])
 (.seq (.seq (.ops 1 false [⟨some 5, .mv (.c (.int .i64 0)), none, false, false, []⟩])
 (.block 0 (.loop [0, 1, 5] (.seq (.seq (.ops 2 false [⟨some 6, .mv (.t 5), none, false, false, []⟩,
    ⟨some 7, .mv (.t 0), none, false, false, []⟩,
    ⟨some 8, .len (.t 7), none, false, false, [7]⟩,
    ⟨some 9, .bin .lss (.t 6) (.t 8), none, false, false, [6, 8]⟩])
   (.cond (.t 9)
    (.skip)
    (.exit 0)))
   (.seq (.block 1 (.seq (.ops 4 false [⟨some 12, .mv (.t 0), none, false, false, []⟩,
     ⟨some 13, .mv (.t 5), none, false, false, []⟩,
     ⟨some 14, .ia 5 [.int .i64 0, .int .i64 0, .int .i64 0, .int .i64 0, .int .i64 0] (.t 12) (.t 13), none, false, false, [12, 13]⟩,
     ⟨some 15, .fa 1 (.t 14), none, false, false, [14]⟩,
     ⟨some 16, .ld (some 2) [.int .i64 0, .int .i64 0, .int .i64 0, .int .i64 0, .int .i64 0] (.t 15), none, false, false, [15]⟩,
     ⟨some 17, .mv (.t 1), none, false, false, []⟩,
     ⟨some 18, .call (.c (.fn 26 [] [])) [.t 16, .t 17], none, false, false, [16, 17]⟩,
     ⟨some 19, .not (.t 18), none, false, false, [18]⟩,
     ⟨some 20, .mv (.t 19), none, false, false, [19]⟩,
     ⟨some 21, .mv (.t 0), (some (20, false)), true, false, []⟩,
     ⟨some 22, .mv (.t 5), (some (20, false)), true, false, []⟩,
     ⟨some 23, .ia 5 [.int .i64 0, .int .i64 0, .int .i64 0, .int .i64 0, .int .i64 0] (.o 21) (.o 22), (some (20, false)), true, false, [21, 22]⟩,
     ⟨some 24, .fa 3 (.o 23), (some (20, false)), true, false, [23]⟩,
     ⟨some 25, .ld (some 2) [.int .i64 0, .int .i64 0, .int .i64 0, .int .i64 0, .int .i64 0] (.o 24), (some (20, false)), true, false, [24]⟩,
     ⟨some 26, .mv (.t 1), (some (20, false)), true, false, []⟩,
     ⟨some 27, .call (.c (.fn 26 [] [])) [.o 25, .o 26], (some (20, false)), true, false, [25, 26]⟩,
     ⟨some 28, .not (.o 27), (some (20, false)), true, false, [27]⟩,
     ⟨some 29, .pick (.t 20) (.c (.bool true)) (.t 28), none, false, false, [20, 28]⟩])
    (.cond (.t 29)
     (.seq (.ops 5 false [⟨some 4, .mv (.c (.bool false)), none, false, false, []⟩])
     (.ret))
     (.skip))))
   (.ops 3 false [⟨some 10, .mv (.t 5), none, false, false, [5]⟩,
    ⟨some 11, .bin .add (.t 10) (.c (.int .i64 1)), none, false, false, [10]⟩,
    ⟨some 5, .mv (.t 11), none, false, false, [11]⟩]))))))
 (.seq (.ops 6 false [⟨some 4, .mv (.c (.bool true)), none, false, false, []⟩])
 (.ret)))
def rs_r07_Small : List IRes := [.t 4]
theorem ok_r07_Small : fnOk Try.prog 24 ic_r07_Small rs_r07_Small 30 = true := by kernel_rfl

/-- tallyman/tallymanlaw07.PlanRoutes -/
def ic_l07_PlanRoutes : ICode :=
 .seq (.ops 0 false [⟨some 5, .box (.t 1), none, false, false, [1]⟩,
  ⟨some 6, .box (.t 2), none, false, false, [2]⟩,
  ⟨some 8, .mv (.c (.bool false)), none, false, false, [8]⟩])
 (.seq (.seq (.ops 1 false [⟨some 9, .mv (.t 0), none, false, false, []⟩,
  ⟨some 10, .len (.t 9), none, false, false, [9]⟩,
  ⟨some 11, .bin .gtr (.t 10) (.c (.int .i64 40)), none, false, false, [10]⟩])
 (.cond (.t 11)
  (.seq (.ops 2 false [⟨some 12, .call (.c (.fn 8 [] [])) [], none, false, false, []⟩,
   ⟨some 8, .mv (.t 12), none, false, false, [12]⟩])
  (.ret))
  (.skip)))
 (.seq (.ops 3 true [⟨some 13, .ld (some 2) [] (.t 5), none, false, false, []⟩,
  ⟨some 14, .ld (some 2) [] (.t 6), none, false, false, []⟩,
  ⟨some 15, .mv (.t 3), none, false, false, []⟩,
  ⟨some 16, .call (.c (.fn 16 [] [])) [.t 13, .t 14, .t 15], none, false, false, [13, 14, 15]⟩,
  ⟨some 17, .ld (some 2) [] (.t 5), none, false, false, []⟩,
  ⟨some 18, .ld (some 2) [] (.t 6), none, false, false, []⟩,
  ⟨some 19, .mv (.t 3), none, false, false, []⟩,
  ⟨some 20, .call (.c (.fn 17 [] [])) [.t 17, .t 18, .t 19], none, false, false, [17, 18, 19]⟩,
  ⟨some 21, .call (.c (.fn 15 [] [])) [.t 16, .t 20], none, false, false, [16, 20]⟩,
  ⟨some 22, .mv (.t 21), none, false, false, [21]⟩,
  ⟨some 23, .mv (.t 0), (some (22, true)), true, false, []⟩,
  ⟨some 24, .ld (some 2) [] (.t 5), (some (22, true)), true, false, []⟩,
  ⟨some 25, .ld (some 2) [] (.t 6), (some (22, true)), true, false, []⟩,
  ⟨some 26, .mv (.t 3), (some (22, true)), true, false, []⟩,
  ⟨some 27, .call (.c (.fn 19 [] [])) [.o 23, .o 24, .o 25, .o 26], (some (22, true)), true, false, [23, 24, 25, 26]⟩,
  ⟨some 28, .mv (.t 0), (some (22, true)), true, false, [0]⟩,
  ⟨some 29, .ld (some 2) [] (.t 5), (some (22, true)), true, false, [5]⟩,
  ⟨some 30, .ld (some 2) [] (.t 6), (some (22, true)), true, false, [6]⟩,
  ⟨some 31, .mv (.t 3), (some (22, true)), true, false, [3]⟩,
  ⟨some 32, .call (.c (.fn 20 [] [])) [.o 28, .o 29, .o 30, .o 31], (some (22, true)), true, false, [28, 29, 30, 31]⟩,
  ⟨some 33, .call (.c (.fn 18 [] [])) [.o 27, .o 32], (some (22, true)), true, false, [27, 32]⟩,
  ⟨some 34, .pick (.t 22) (.t 33) (.c (.bool false)), none, false, false, [22, 33]⟩,
  ⟨some 35, .mv (.t 34), none, false, false, [34]⟩,
  ⟨some 36, .call (.c (.fn 8 [] [])) [], (some (35, true)), true, false, []⟩,
  ⟨some 37, .pick (.t 35) (.t 36) (.c (.bool false)), none, false, false, [35, 36]⟩,
  ⟨some 8, .mv (.t 37), none, false, false, [37]⟩])
 (.ret)))
def rs_l07_PlanRoutes : List IRes := [.t 8]
theorem ok_l07_PlanRoutes : fnOk Try.prog 4 ic_l07_PlanRoutes rs_l07_PlanRoutes 38 = true := by kernel_rfl

/-- tallyman/tallymanlaw07.PlanMoved -/
def ic_l07_PlanMoved : ICode :=
 .seq (.ops 0 false [⟨some 3, .box (.t 1), none, false, false, [1]⟩,
  ⟨some 4, .mv (.c (.bool false)), none, false, false, [4]⟩])
 (.seq (.seq (.ops 1 false [⟨some 5, .mv (.t 0), none, false, false, []⟩,
  ⟨some 6, .len (.t 5), none, false, false, [5]⟩,
  ⟨some 7, .bin .gtr (.t 6) (.c (.int .i64 60)), none, false, false, [6]⟩])
 (.cond (.t 7)
  (.seq (.ops 2 false [⟨some 8, .call (.c (.fn 8 [] [])) [], none, false, false, []⟩,
   ⟨some 4, .mv (.t 8), none, false, false, [8]⟩])
  (.ret))
  (.skip)))
 (.seq (.ops 3 true [⟨some 9, .ld (some 3) [] (.t 3), none, false, false, []⟩,
  ⟨some 10, .mv (.t 0), none, false, false, []⟩,
  ⟨some 11, .call (.c (.fn 22 [] [])) [.t 9, .t 10], none, false, false, [9, 10]⟩,
  ⟨some 12, .ld (some 3) [] (.t 3), none, false, false, [3]⟩,
  ⟨some 13, .mv (.t 0), none, false, false, [0]⟩,
  ⟨some 14, .call (.c (.fn 23 [] [])) [.t 12, .t 13], none, false, false, [12, 13]⟩,
  ⟨some 15, .call (.c (.fn 21 [] [])) [.t 11, .t 14], none, false, false, [11, 14]⟩,
  ⟨some 16, .mv (.t 15), none, false, false, [15]⟩,
  ⟨some 17, .call (.c (.fn 8 [] [])) [], (some (16, true)), true, false, []⟩,
  ⟨some 18, .pick (.t 16) (.t 17) (.c (.bool false)), none, false, false, [16, 17]⟩,
  ⟨some 4, .mv (.t 18), none, false, false, [18]⟩])
 (.ret)))
def rs_l07_PlanMoved : List IRes := [.t 4]
theorem ok_l07_PlanMoved : fnOk Try.prog 5 ic_l07_PlanMoved rs_l07_PlanMoved 19 = true := by kernel_rfl

/-- tallyman/tallymanlaw07.PlanTurns -/
def ic_l07_PlanTurns : ICode :=
 .seq (.ops 0 false [⟨some 6, .box (.t 1), none, false, false, [1]⟩,
  ⟨some 7, .box (.t 2), none, false, false, [2]⟩,
  ⟨some 8, .box (.t 3), none, false, false, [3]⟩,
  ⟨some 10, .mv (.c (.bool false)), none, false, false, [10]⟩])
 (.seq (.seq (.ops 1 false [⟨some 20, .mv (.t 0), none, false, false, []⟩,
  ⟨some 21, .call (.c (.fn 12 [] [])) [.t 20], none, false, false, [20]⟩,
  ⟨some 22, .not (.t 21), none, false, false, [21]⟩,
  ⟨some 23, .mv (.t 22), none, false, false, [22]⟩,
  ⟨some 24, .mv (.t 0), (some (23, false)), true, false, []⟩,
  ⟨some 25, .call (.c (.fn 11 [] [])) [.o 24], (some (23, false)), true, false, [24]⟩,
  ⟨some 26, .not (.o 25), (some (23, false)), true, false, [25]⟩,
  ⟨some 27, .pick (.t 23) (.c (.bool true)) (.t 26), none, false, false, [23, 26]⟩,
  ⟨some 28, .mv (.t 27), none, false, false, [27]⟩,
  ⟨some 29, .mv (.t 0), (some (28, false)), true, false, []⟩,
  ⟨some 30, .call (.c (.fn 24 [] [])) [.o 29, .c (.int .i64 200)], (some (28, false)), true, false, [29]⟩,
  ⟨some 31, .not (.o 30), (some (28, false)), true, false, [30]⟩,
  ⟨some 32, .pick (.t 28) (.c (.bool true)) (.t 31), none, false, false, [28, 31]⟩,
  ⟨some 33, .mv (.t 32), none, false, false, [32]⟩,
  ⟨some 34, .ld (some 3) [] (.t 6), (some (33, false)), true, false, []⟩,
  ⟨some 35, .call (.c (.fn 25 [] [])) [.o 34, .c (.int .i64 200)], (some (33, false)), true, false, [34]⟩,
  ⟨some 36, .not (.o 35), (some (33, false)), true, false, [35]⟩,
  ⟨some 37, .pick (.t 33) (.c (.bool true)) (.t 36), none, false, false, [33, 36]⟩,
  ⟨some 38, .mv (.t 37), none, false, false, [37]⟩,
  ⟨some 39, .ld (some 2) [] (.t 7), (some (38, false)), true, false, []⟩,
  ⟨some 40, .call (.c (.fn 26 [] [])) [.o 39, .c (.int .i64 200)], (some (38, false)), true, false, [39]⟩,
  ⟨some 41, .not (.o 40), (some (38, false)), true, false, [40]⟩,
  ⟨some 42, .pick (.t 38) (.c (.bool true)) (.t 41), none, false, false, [38, 41]⟩,
  ⟨some 43, .mv (.t 42), none, false, false, [42]⟩,
  ⟨some 44, .ld (some 2) [] (.t 8), (some (43, false)), true, false, []⟩,
  ⟨some 45, .call (.c (.fn 26 [] [])) [.o 44, .c (.int .i64 200)], (some (43, false)), true, false, [44]⟩,
  ⟨some 46, .not (.o 45), (some (43, false)), true, false, [45]⟩,
  ⟨some 47, .pick (.t 43) (.c (.bool true)) (.t 46), none, false, false, [43, 46]⟩])
 (.cond (.t 47)
  (.seq (.ops 2 false [⟨some 48, .call (.c (.fn 8 [] [])) [], none, false, false, []⟩,
   ⟨some 10, .mv (.t 48), none, false, false, [48]⟩])
  (.ret))
  (.skip)))
 (.seq (.ops 3 true [⟨some 49, .ld (some 3) [] (.t 6), none, false, true, []⟩,
  ⟨some 50, .mv (.t 0), none, false, false, []⟩,
  ⟨some 51, .call (.c (.fn 22 [] [])) [.t 49, .t 50], none, false, true, [49, 50]⟩,
  ⟨some 52, .ld (some 3) [] (.t 6), none, false, true, []⟩,
  ⟨some 53, .ld (some 2) [] (.t 7), none, false, true, []⟩,
  ⟨some 54, .call (.c (.fn 27 [] [])) [.t 52, .t 53], none, false, true, [52, 53]⟩,
  ⟨some 55, .ld (some 3) [] (.t 6), none, false, true, []⟩,
  ⟨some 56, .ld (some 2) [] (.t 8), none, false, true, []⟩,
  ⟨some 57, .call (.c (.fn 27 [] [])) [.t 55, .t 56], none, false, true, [55, 56]⟩,
  ⟨some 12, .alloc [.int .i64 0, .int .i64 0], none, false, false, []⟩,
  ⟨some 13, .alloc [.int .i64 0, .int .i64 0], none, false, false, []⟩,
  ⟨some 11, .mv (.t 51), none, false, false, [51]⟩,
  ⟨none, .st 2 (.t 12) (.t 54), none, false, false, [54]⟩,
  ⟨none, .st 2 (.t 13) (.t 57), none, false, false, [57]⟩])
 (.seq (.ops 4 false [⟨some 59, .mv (.t 0), none, false, false, []⟩,
  ⟨some 60, .ld (some 2) [] (.t 7), none, false, false, []⟩,
  ⟨some 61, .call (.c (.fn 9 [] [])) [.t 59, .t 60], none, false, false, [59, 60]⟩,
  ⟨some 58, .mv (.t 61), none, false, false, [61]⟩,
  ⟨some 62, .ext 0 (.t 58), none, false, false, []⟩,
  ⟨some 63, .ext 1 (.t 58), none, false, false, [58]⟩,
  ⟨some 14, .mv (.t 62), none, false, false, [62]⟩,
  ⟨some 15, .mv (.t 63), none, false, false, [63]⟩])
 (.seq (.ops 5 false [⟨some 65, .mv (.t 11), none, false, false, []⟩,
  ⟨some 66, .ld (some 2) [] (.t 12), none, false, false, []⟩,
  ⟨some 67, .call (.c (.fn 9 [] [])) [.t 65, .t 66], none, false, false, [65, 66]⟩,
  ⟨some 64, .mv (.t 67), none, false, false, [67]⟩,
  ⟨some 68, .ext 0 (.t 64), none, false, false, []⟩,
  ⟨some 69, .ext 1 (.t 64), none, false, false, [64]⟩,
  ⟨some 16, .mv (.t 68), none, false, false, [68]⟩,
  ⟨some 17, .mv (.t 69), none, false, false, [69]⟩])
 (.seq (.ops 6 false [⟨some 18, .mv (.c (.int .i64 0)), none, false, false, []⟩,
  ⟨some 19, .mv (.c (.int .i64 0)), none, false, false, []⟩])
 (.seq (.seq (.ops 7 false [⟨some 70, .mv (.t 4), none, false, false, [4]⟩])
 (.cond (.t 70)
  (.ops 8 false [⟨some 18, .mv (.c (.int .i64 1)), none, false, false, []⟩,
   ⟨some 19, .mv (.c (.int .i64 1)), none, false, false, []⟩])
  (.skip)))
 (.seq (.seq (.ops 9 false [⟨some 71, .fa 0 (.t 6), none, false, false, [6]⟩,
  ⟨some 72, .ld none [] (.t 71), none, false, false, [71]⟩,
  ⟨some 73, .bin .rem (.t 72) (.c (.int .i64 2)), none, false, false, [72]⟩,
  ⟨some 74, .bin .neq (.t 73) (.c (.int .i64 0)), none, false, false, [73]⟩])
 (.cond (.t 74)
  (.ops 10 false [⟨some 75, .mv (.t 18), none, false, false, []⟩,
   ⟨some 76, .bin .sub (.c (.int .i64 1)) (.t 75), none, false, false, [75]⟩,
   ⟨some 19, .mv (.t 76), none, false, false, [76]⟩])
  (.skip)))
 (.seq (.ops 11 true [⟨some 77, .mv (.t 11), none, false, false, []⟩,
  ⟨some 78, .call (.c (.fn 11 [] [])) [.t 77], none, false, false, [77]⟩,
  ⟨some 79, .mv (.t 78), none, false, false, [78]⟩,
  ⟨some 80, .mv (.t 14), (some (79, true)), true, false, [14]⟩,
  ⟨some 81, .mv (.t 16), (some (79, true)), true, false, [16]⟩,
  ⟨some 82, .bin .eql (.o 80) (.o 81), (some (79, true)), true, false, [80, 81]⟩,
  ⟨some 83, .pick (.t 79) (.t 82) (.c (.bool false)), none, false, false, [79, 82]⟩,
  ⟨some 84, .mv (.t 83), none, false, false, [83]⟩,
  ⟨some 85, .mv (.t 15), (some (84, true)), true, false, [15]⟩,
  ⟨some 86, .mv (.t 17), (some (84, true)), true, false, [17]⟩,
  ⟨some 87, .eqb false (.o 85) (.o 86), (some (84, true)), true, false, [85, 86]⟩,
  ⟨some 88, .pick (.t 84) (.t 87) (.c (.bool false)), none, false, false, [84, 87]⟩,
  ⟨some 89, .mv (.t 88), none, false, false, [88]⟩,
  ⟨some 90, .mv (.t 0), (some (89, true)), true, false, [0]⟩,
  ⟨some 91, .ld (some 2) [] (.t 7), (some (89, true)), true, false, [7]⟩,
  ⟨some 92, .ld (some 2) [] (.t 8), (some (89, true)), true, false, [8]⟩,
  ⟨some 93, .mv (.t 18), (some (89, true)), true, false, [18]⟩,
  ⟨some 94, .call (.c (.fn 19 [] [])) [.o 90, .o 91, .o 92, .o 93], (some (89, true)), true, false, [90, 91, 92, 93]⟩,
  ⟨some 95, .mv (.t 11), (some (89, true)), true, false, [11]⟩,
  ⟨some 96, .ld (some 2) [] (.t 12), (some (89, true)), true, false, [12]⟩,
  ⟨some 97, .ld (some 2) [] (.t 13), (some (89, true)), true, false, [13]⟩,
  ⟨some 98, .mv (.t 19), (some (89, true)), true, false, [19]⟩,
  ⟨some 99, .call (.c (.fn 19 [] [])) [.o 95, .o 96, .o 97, .o 98], (some (89, true)), true, false, [95, 96, 97, 98]⟩,
  ⟨some 100, .call (.c (.fn 18 [] [])) [.o 94, .o 99], (some (89, true)), true, false, [94, 99]⟩,
  ⟨some 101, .pick (.t 89) (.t 100) (.c (.bool false)), none, false, false, [89, 100]⟩,
  ⟨some 102, .mv (.t 101), none, false, false, [101]⟩,
  ⟨some 103, .call (.c (.fn 8 [] [])) [], (some (102, true)), true, false, []⟩,
  ⟨some 104, .pick (.t 102) (.t 103) (.c (.bool false)), none, false, false, [102, 103]⟩,
  ⟨some 10, .mv (.t 104), none, false, false, [104]⟩])
 (.ret)))))))))
def rs_l07_PlanTurns : List IRes := [.t 10]
theorem ok_l07_PlanTurns : fnOk Try.prog 6 ic_l07_PlanTurns rs_l07_PlanTurns 105 = true := by kernel_rfl
-- open order: two that write, 9 and 10
-- open order: two that write, 10 and 9

/-- tallyman/tallymanlaw07.PlanBack -/
def ic_l07_PlanBack : ICode :=
 .seq (.ops 0 false [⟨some 4, .box (.t 1), none, false, false, [1]⟩,
  ⟨some 5, .box (.t 2), none, false, false, [2]⟩,
  ⟨some 6, .mv (.c (.bool false)), none, false, false, [6]⟩])
 (.seq (.seq (.ops 1 false [⟨some 19, .mv (.t 0), none, false, false, []⟩,
  ⟨some 20, .call (.c (.fn 12 [] [])) [.t 19], none, false, false, [19]⟩,
  ⟨some 21, .not (.t 20), none, false, false, [20]⟩,
  ⟨some 22, .mv (.t 21), none, false, false, [21]⟩,
  ⟨some 23, .ld (some 2) [] (.t 4), (some (22, false)), true, false, []⟩,
  ⟨some 24, .call (.c (.fn 26 [] [])) [.o 23, .c (.int .i64 200)], (some (22, false)), true, false, [23]⟩,
  ⟨some 25, .not (.o 24), (some (22, false)), true, false, [24]⟩,
  ⟨some 26, .pick (.t 22) (.c (.bool true)) (.t 25), none, false, false, [22, 25]⟩,
  ⟨some 27, .mv (.t 26), none, false, false, [26]⟩,
  ⟨some 28, .ld (some 2) [] (.t 5), (some (27, false)), true, false, []⟩,
  ⟨some 29, .call (.c (.fn 26 [] [])) [.o 28, .c (.int .i64 200)], (some (27, false)), true, false, [28]⟩,
  ⟨some 30, .not (.o 29), (some (27, false)), true, false, [29]⟩,
  ⟨some 31, .pick (.t 27) (.c (.bool true)) (.t 30), none, false, false, [27, 30]⟩])
 (.cond (.t 31)
  (.seq (.ops 2 false [⟨some 32, .call (.c (.fn 8 [] [])) [], none, false, false, []⟩,
   ⟨some 6, .mv (.t 32), none, false, false, [32]⟩])
  (.ret))
  (.skip)))
 (.seq (.ops 3 false [⟨some 33, .ld (some 2) [] (.t 4), none, false, false, []⟩,
  ⟨some 34, .ld (some 2) [] (.t 5), none, false, false, []⟩,
  ⟨some 35, .call (.c (.fn 16 [] [])) [.t 33, .t 34, .c (.int .i64 0)], none, false, false, [33, 34]⟩,
  ⟨some 7, .mv (.t 35), none, false, false, [35]⟩])
 (.seq (.ops 4 false [⟨some 36, .mv (.t 0), none, false, false, []⟩,
  ⟨some 37, .ld (some 2) [] (.t 4), none, false, false, []⟩,
  ⟨some 38, .ld (some 2) [] (.t 5), none, false, false, []⟩,
  ⟨some 39, .call (.c (.fn 19 [] [])) [.t 36, .t 37, .t 38, .c (.int .i64 0)], none, false, false, [36, 37, 38]⟩,
  ⟨some 8, .mv (.t 39), none, false, false, [39]⟩])
 (.seq (.seq (.ops 5 true [⟨some 40, .mv (.t 8), none, false, false, []⟩,
  ⟨some 41, .mv (.t 0), none, false, false, []⟩,
  ⟨some 42, .ld (some 2) [] (.t 5), none, false, false, []⟩,
  ⟨some 43, .ld (some 2) [] (.t 4), none, false, false, []⟩,
  ⟨some 44, .call (.c (.fn 19 [] [])) [.t 41, .t 42, .t 43, .c (.int .i64 1)], none, false, false, [41, 42, 43]⟩,
  ⟨some 45, .call (.c (.fn 18 [] [])) [.t 40, .t 44], none, false, false, [40, 44]⟩,
  ⟨some 46, .not (.t 45), none, false, false, [45]⟩,
  ⟨some 47, .mv (.t 46), none, false, false, [46]⟩,
  ⟨some 48, .mv (.t 7), (some (47, false)), true, false, []⟩,
  ⟨some 49, .len (.o 48), (some (47, false)), true, false, [48]⟩,
  ⟨some 50, .fa 0 (.t 5), (some (47, false)), true, false, []⟩,
  ⟨some 51, .ld none [] (.o 50), (some (47, false)), true, false, [50]⟩,
  ⟨some 52, .fa 0 (.t 4), (some (47, false)), true, false, []⟩,
  ⟨some 53, .ld none [] (.o 52), (some (47, false)), true, false, [52]⟩,
  ⟨some 54, .bin .sub (.o 51) (.o 53), (some (47, false)), true, false, [51, 53]⟩,
  ⟨some 55, .fa 1 (.t 5), (some (47, false)), true, false, []⟩,
  ⟨some 56, .ld none [] (.o 55), (some (47, false)), true, false, [55]⟩,
  ⟨some 57, .fa 1 (.t 4), (some (47, false)), true, false, []⟩,
  ⟨some 58, .ld none [] (.o 57), (some (47, false)), true, false, [57]⟩,
  ⟨some 59, .bin .sub (.o 56) (.o 58), (some (47, false)), true, false, [56, 58]⟩,
  ⟨some 60, .build [.int .i64 0, .int .i64 0] [(0, 1, .o 54), (1, 1, .o 59)], (some (47, false)), true, false, [54, 59]⟩,
  ⟨some 61, .call (.c (.fn 28 [] [])) [.o 60], (some (47, false)), true, false, [60]⟩,
  ⟨some 62, .bin .add (.c (.int .i64 1)) (.o 61), (some (47, false)), true, false, [61]⟩,
  ⟨some 63, .bin .neq (.o 49) (.o 62), (some (47, false)), true, false, [49, 62]⟩,
  ⟨some 64, .pick (.t 47) (.c (.bool true)) (.t 63), none, false, false, [47, 63]⟩,
  ⟨some 65, .mv (.t 64), none, false, false, [64]⟩,
  ⟨some 66, .mv (.t 7), (some (65, false)), true, false, []⟩,
  ⟨some 67, .ia 2 [.int .i64 0, .int .i64 0] (.o 66) (.c (.int .i64 0)), (some (65, false)), true, false, [66]⟩,
  ⟨some 68, .ld (some 2) [.int .i64 0, .int .i64 0] (.o 67), (some (65, false)), true, false, [67]⟩,
  ⟨some 69, .ld (some 2) [] (.t 4), (some (65, false)), true, false, [4]⟩,
  ⟨some 70, .eqc true [false, false] (.o 68) (.o 69), (some (65, false)), true, false, [68, 69]⟩,
  ⟨some 71, .pick (.t 65) (.c (.bool true)) (.t 70), none, false, false, [65, 70]⟩,
  ⟨some 72, .mv (.t 71), none, false, false, [71]⟩,
  ⟨some 73, .mv (.t 7), (some (72, false)), true, false, []⟩,
  ⟨some 74, .mv (.t 7), (some (72, false)), true, false, []⟩,
  ⟨some 75, .len (.o 74), (some (72, false)), true, false, [74]⟩,
  ⟨some 76, .bin .sub (.o 75) (.c (.int .i64 1)), (some (72, false)), true, false, [75]⟩,
  ⟨some 77, .ia 2 [.int .i64 0, .int .i64 0] (.o 73) (.o 76), (some (72, false)), true, false, [73, 76]⟩,
  ⟨some 78, .ld (some 2) [.int .i64 0, .int .i64 0] (.o 77), (some (72, false)), true, false, [77]⟩,
  ⟨some 79, .ld (some 2) [] (.t 5), (some (72, false)), true, false, [5]⟩,
  ⟨some 80, .eqc true [false, false] (.o 78) (.o 79), (some (72, false)), true, false, [78, 79]⟩,
  ⟨some 81, .pick (.t 72) (.c (.bool true)) (.t 80), none, false, false, [72, 80]⟩])
 (.cond (.t 81)
  (.seq (.ops 6 false [⟨some 6, .mv (.c (.bool false)), none, false, false, []⟩])
  (.ret))
  (.skip)))
 (.seq (.seq (.ops 7 false [⟨some 82, .mv (.t 0), none, false, false, []⟩,
  ⟨some 83, .len (.t 82), none, false, false, []⟩,
  ⟨some 84, .mv (.c (.int .i64 0)), none, false, false, []⟩])
 (.block 0 (.loop [0, 7, 8, 82, 83, 84] (.seq (.ops 8 false [⟨some 85, .bin .lss (.t 84) (.t 83), none, false, false, []⟩])
   (.seq (.cond (.t 85)
    (.skip)
    (.exit 0))
   (.seq (.block 1 (.seq (.ops 9 false [⟨some 86, .ia 5 [.int .i64 0, .int .i64 0, .int .i64 0, .int .i64 0, .int .i64 0] (.t 82) (.t 84), none, false, false, []⟩,
     ⟨some 87, .ld (some 5) [.int .i64 0, .int .i64 0, .int .i64 0, .int .i64 0, .int .i64 0] (.t 86), none, false, false, [86]⟩,
     ⟨some 10, .alloc [.int .i64 0, .int .i64 0, .int .i64 0, .int .i64 0, .int .i64 0], none, false, false, []⟩,
     ⟨none, .st 5 (.t 10) (.t 87), none, false, false, [87]⟩])
    (.seq (.ops 10 false [⟨some 11, .mv (.c (.bool false)), none, false, false, []⟩])
    (.seq (.seq (.ops 11 false [⟨some 88, .mv (.t 7), none, false, false, []⟩,
     ⟨some 89, .len (.t 88), none, false, false, []⟩,
     ⟨some 90, .mv (.c (.int .i64 0)), none, false, false, []⟩])
    (.block 2 (.loop [0, 7, 8, 10, 11, 82, 83, 84, 88, 89, 90] (.seq (.ops 12 false [⟨some 91, .bin .lss (.t 90) (.t 89), none, false, false, []⟩])
      (.seq (.cond (.t 91)
       (.skip)
       (.exit 2))
      (.seq (.block 3 (.seq (.ops 13 false [⟨some 92, .ia 2 [.int .i64 0, .int .i64 0] (.t 88) (.t 90), none, false, false, []⟩,
        ⟨some 93, .ld (some 2) [.int .i64 0, .int .i64 0] (.t 92), none, false, false, [92]⟩,
        ⟨some 13, .alloc [.int .i64 0, .int .i64 0], none, false, false, []⟩,
        ⟨none, .st 2 (.t 13) (.t 93), none, false, false, [93]⟩])
       (.seq (.ops 14 false [⟨some 95, .mv (.t 0), none, false, false, []⟩,
        ⟨some 96, .ld (some 2) [] (.t 13), none, false, false, [13]⟩,
        ⟨some 97, .call (.c (.fn 9 [] [])) [.t 95, .t 96], none, false, false, [95, 96]⟩,
        ⟨some 94, .mv (.t 97), none, false, false, [97]⟩,
        ⟨some 98, .ext 0 (.t 94), none, false, false, []⟩,
        ⟨some 99, .ext 1 (.t 94), none, false, false, [94]⟩,
        ⟨some 14, .mv (.t 98), none, false, false, [98]⟩,
        ⟨some 15, .mv (.t 99), none, false, false, [99]⟩])
       (.ops 15 false [⟨some 100, .mv (.t 11), none, false, false, [11]⟩,
        ⟨some 101, .mv (.t 100), none, false, false, [100]⟩,
        ⟨some 102, .mv (.t 15), (some (101, false)), true, false, [15]⟩,
        ⟨some 103, .mv (.o 102), (some (101, false)), true, false, [102]⟩,
        ⟨some 104, .mv (.t 14), (some (103, true)), true, false, [14]⟩,
        ⟨some 105, .fa 0 (.t 10), (some (103, true)), true, false, []⟩,
        ⟨some 106, .ld none [] (.o 105), (some (103, true)), true, false, [105]⟩,
        ⟨some 107, .bin .eql (.o 104) (.o 106), (some (103, true)), true, false, [104, 106]⟩,
        ⟨some 108, .pick (.o 103) (.t 107) (.c (.bool false)), (some (101, false)), true, false, [103, 107]⟩,
        ⟨some 109, .pick (.t 101) (.c (.bool true)) (.t 108), none, false, false, [101, 108]⟩,
        ⟨some 11, .mv (.t 109), none, false, false, [109]⟩]))))
      (.ops 16 false [⟨some 110, .bin .add (.t 90) (.c (.int .i64 1)), none, false, false, [90]⟩,
       ⟨some 90, .mv (.t 110), none, false, false, [110]⟩])))))))
    (.seq (.ops 17 false [⟨some 16, .mv (.c (.bool false)), none, false, false, []⟩])
    (.seq (.seq (.ops 18 false [⟨some 111, .mv (.t 8), none, false, false, []⟩,
     ⟨some 112, .len (.t 111), none, false, false, []⟩,
     ⟨some 113, .mv (.c (.int .i64 0)), none, false, false, []⟩])
    (.block 4 (.loop [0, 7, 8, 10, 11, 16, 82, 83, 84, 111, 112, 113] (.seq (.ops 19 false [⟨some 114, .bin .lss (.t 113) (.t 112), none, false, false, []⟩])
      (.seq (.cond (.t 114)
       (.skip)
       (.exit 4))
      (.seq (.block 5 (.seq (.ops 20 false [⟨some 115, .ia 1 [.int .i64 0] (.t 111) (.t 113), none, false, false, []⟩,
        ⟨some 116, .ld none [.int .i64 0] (.t 115), none, false, false, [115]⟩,
        ⟨some 18, .mv (.t 116), none, false, false, [116]⟩])
       (.ops 21 false [⟨some 117, .mv (.t 16), none, false, false, [16]⟩,
        ⟨some 118, .mv (.t 117), none, false, false, [117]⟩,
        ⟨some 119, .mv (.t 18), (some (118, false)), true, false, [18]⟩,
        ⟨some 120, .fa 0 (.t 10), (some (118, false)), true, false, []⟩,
        ⟨some 121, .ld none [] (.o 120), (some (118, false)), true, false, [120]⟩,
        ⟨some 122, .bin .eql (.o 119) (.o 121), (some (118, false)), true, false, [119, 121]⟩,
        ⟨some 123, .pick (.t 118) (.c (.bool true)) (.t 122), none, false, false, [118, 122]⟩,
        ⟨some 16, .mv (.t 123), none, false, false, [123]⟩])))
      (.ops 22 false [⟨some 124, .bin .add (.t 113) (.c (.int .i64 1)), none, false, false, [113]⟩,
       ⟨some 113, .mv (.t 124), none, false, false, [124]⟩])))))))
    (.seq (.ops 23 false [⟨some 125, .mv (.t 11), none, false, false, [11]⟩,
     ⟨some 126, .mv (.t 16), none, false, false, [16]⟩,
     ⟨some 127, .eqb true (.t 125) (.t 126), none, false, false, [125, 126]⟩])
    (.cond (.t 127)
     (.seq (.ops 24 false [⟨some 6, .mv (.c (.bool false)), none, false, false, []⟩])
     (.ret))
     (.skip)))))))))
   (.ops 25 false [⟨some 128, .bin .add (.t 84) (.c (.int .i64 1)), none, false, false, [84]⟩,
    ⟨some 84, .mv (.t 128), none, false, false, [128]⟩])))))))
 (.seq (.ops 26 false [⟨some 129, .call (.c (.fn 8 [] [])) [], none, false, false, []⟩,
  ⟨some 6, .mv (.t 129), none, false, false, [129]⟩])
 (.ret)))))))
def rs_l07_PlanBack : List IRes := [.t 6]
theorem ok_l07_PlanBack : fnOk Try.prog 7 ic_l07_PlanBack rs_l07_PlanBack 130 = true := by kernel_rfl

end Go.Proofs.Ytjpgnicgapkndaa.Sx
