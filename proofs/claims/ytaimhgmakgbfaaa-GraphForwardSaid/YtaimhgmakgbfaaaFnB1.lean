/- Functions of specs that hold them against each other and copy them. No conditions: a kit of our own. -/
import Derived.Test.YtaimhgmakgbfaaaFnA1
import Derived.Test.YtaimhgmakgbfaaaIrB
namespace Go.Proofs.Ytaimhgmakgbfaaa.Sx
open Go Go.RowKit
set_option linter.unusedVariables false
set_option linter.unusedSimpArgs false

theorem det_Equal (xs ys : List Int) (hl : xs.length ≤ 9223372036854775807) : Det Try.prog 122 [en xs, en ys] [] (.bool (decide (xs = ys))) [] := by
  refine det_finF mixed0 knows_nil ok_slices_Equal_int_int 1 (by simp) ?_
  simp [ic_slices_Equal_int_int, rs_slices_Equal_int_int]
  refine ⟨fun h e => h (by rw [e]), fun hlen => ?_⟩
  refine LoopC.scanB (0 : Int) xs (fun i (_ : Unit) => ⟨[(0, .view (xs.map Cel.c)), (1, .view (ys.map Cel.c)), (12, .int .i64 xs.length), (13, .int .i64 i)], []⟩) (fun i _ r => xs = ys ↔ r = ys.drop i) () (by simp) (by simp) (by simp) (fun i a r b hi ha hd hG => ?_) fun b hG => ?_
  · have hi' : i < ys.length := by omega
    have hy := drop_nth (0 : Int) hi'
    simp [hi, hi', ha, vcLoose]
    rw [hy] at hG
    refine ⟨fun e => ?_, fun e => ⟨by omega, ?_⟩⟩
    · rw [hG]; simp; intro e'; exact absurd e' e
    · rw [hG, e]; simp
  · simp
    rw [hG, List.drop_of_length_le (by omega)]
theorem known_Equal : Known Try.prog 122 cInts := known_C2 (fun l n h => det_Equal l n h) fun l n => flat_bool _
theorem det_CloneI (l : List Int) (hl : l.length ≤ 1073741824) : Det Try.prog 62 [en l] [] (en l) [] := by
  refine det_finF mixed0 knows_nil ok_slices_Clone_int_int 1 (by simp) ?_
  simp [ic_slices_Clone_int_int, rs_slices_Clone_int_int, hl]
def cCloneI : Ctr := V1 (fun l : List Int => l.length ≤ 1073741824) fun l => en l
theorem known_CloneI : Known Try.prog 62 cCloneI := known_V1 (fun l h => det_CloneI l h) fun l h => closed_en _
def plainOf (x : Spec) : Pln := ⟨x.ID, x.Prio, x.Skill, x.Gear, x.From, x.To⟩
theorem det_task_of (x : Spec) : Det Try.prog 170 [en x] [] (en (plainOf x)) [] := by
  refine det_finF mixed0 knows_nil ok_task_of 1 (by simp) ?_
  simp [ic_task_of, rs_task_of, plainOf]
def cTaskOf : Ctr := V1 (fun x : Spec => True) fun x => en (plainOf x)
theorem known_TaskOf : Known Try.prog 170 cTaskOf := known_V1 (fun x h => det_task_of x) fun x h => closed_en _
theorem det_task_Same (x y : Spec) (hx : x.After.length ≤ 9223372036854775807) : Det Try.prog 135 [en x, en y] [] (.bool (decide (x = y))) [] := by
  refine det_finF mixed0 (knows_cons known_TaskOf (knows_cons known_Equal knows_nil)) ok_task_Same 1 (by simp) ?_
  have hx' : x.After.length ≤ 9223372036854775807 := by omega
  simp [ic_task_Same, rs_task_Same, cTaskOf, plainOf, cInts, hx', vcLoose]
  rw [Bool.eq_iff_iff]
  simp [ext_Spec, ext_Pt, and_assoc]
theorem known_TaskSame : Known Try.prog 135 cR22Same := known_C2 (fun x y h => det_task_Same x y h) fun x y => flat_bool _
theorem det_task_Clone (x : Spec) (hx : x.After.length ≤ 1073741824) : Det Try.prog 61 [en x] [] (en x) [] := by
  refine det_finF mixed0 (knows_cons known_CloneI knows_nil) ok_task_Clone 1 (by simp) ?_
  simp [ic_task_Clone, rs_task_Clone, cCloneI, hx]
def cTaskClone : Ctr := V1 (fun x : Spec => x.After.length ≤ 1073741824) fun x => en x
theorem known_TaskClone : Known Try.prog 61 cTaskClone := known_V1 (fun x h => det_task_Clone x h) fun x h => closed_en _

end Go.Proofs.Ytaimhgmakgbfaaa.Sx
