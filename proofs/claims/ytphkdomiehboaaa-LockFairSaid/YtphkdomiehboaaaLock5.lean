/- Contracts of the reference functions of layer 19. No conditions: a kit of our own. -/
import Derived.Test.YtphkdomiehboaaaLock4
namespace Go.Proofs.Ytphkdomiehboaaa.Sx
open Go Go.RowKit
set_option linter.unusedVariables false
set_option linter.unusedSimpArgs false

def cellsOf : AV → List AV
  | .agg cs => cs
  | _ => []
def lId (a : AV) : Int := numOf (nth (cellsOf a) 0 .any)
def lHo (a : AV) : Int := numOf (nth (cellsOf a) 1 .any)
def lWa (a : AV) : List Int := unI (nth (cellsOf a) 2 .any)
/-- A lock as a value. -/
def isL (a : AV) : Prop := a = vL (lId a) (lHo a) (lWa a)
@[simp] theorem lId_vL (i h : Int) (w : List Int) : lId (vL i h w) = i := rfl
@[simp] theorem lHo_vL (i h : Int) (w : List Int) : lHo (vL i h w) = h := rfl
@[simp] theorem lWa_vL (i h : Int) (w : List Int) : lWa (vL i h w) = w := unI_vI w
@[simp] theorem isL_vL (i h : Int) (w : List Int) : isL (vL i h w) := by unfold isL; simp
@[simp] theorem lId_agg (i h : Int) (w : List Int) : lId (.agg [.int .i64 i, .int .i64 h, .view (w.map rI)]) = i := rfl
@[simp] theorem lHo_agg (i h : Int) (w : List Int) : lHo (.agg [.int .i64 i, .int .i64 h, .view (w.map rI)]) = h := rfl
@[simp] theorem lWa_agg (i h : Int) (w : List Int) : lWa (.agg [.int .i64 i, .int .i64 h, .view (w.map rI)]) = w := unI_vI w
@[simp] theorem isL_agg (i h : Int) (w : List Int) : isL (.agg [.int .i64 i, .int .i64 h, .view (w.map rI)]) := isL_vL i h w
def cR19Same : Ctr := pureC (fun a => isL (nth a 0 .any) ∧ isL (nth a 1 .any) ∧ (lWa (nth a 0 .any)).length ≤ 140737488355328 ∧ a = [nth a 0 .any, nth a 1 .any])
  (fun a => .bool (decide (lId (nth a 0 .any) = lId (nth a 1 .any)) && decide (lHo (nth a 0 .any) = lHo (nth a 1 .any)) && decide (lWa (nth a 0 .any) = lWa (nth a 1 .any))))
theorem known_R19Same : Known Try.prog 35 cR19Same := by
  rintro args H ⟨hi, hj, hl, ha⟩
  rw [hi, hj] at ha
  generalize lId (nth args 0 .any) = i at *
  generalize lHo (nth args 0 .any) = h at *
  generalize lWa (nth args 0 .any) = w at *
  generalize lId (nth args 1 .any) = j at *
  generalize lHo (nth args 1 .any) = k at *
  generalize lWa (nth args 1 .any) = u at *
  subst ha
  simp only [cR19Same, pureC, nth_zero, nth_succ, lId_vL, lHo_vL, lWa_vL]
  exact (det_r19_Same i h w j k u hl).pure (fun y hy => by simp at hy; rcases hy with rfl | rfl <;> exact closed_vL _ _ _) (closed_bool _) H
theorem closed_tup3 {a b c : AV} (ha : Closed a) (hb : Closed b) (hc : Closed c) : Closed (.tup [a, b, c]) := .tup rfl fun i x y h1 h2 => by
  rw [h1] at h2; cases h2
  have := List.mem_of_getElem? h1
  simp at this
  rcases this with rfl | rfl | rfl
  · exact ha
  · exact hb
  · exact hc
def r19Ask (i h : Int) (w : List Int) (t : Int) : AV := if t < 1 then .tup [vL i h w, .int .i64 1] else if h = t ∨ t ∈ w then .tup [vL i h w, .int .i64 6] else if 64 ≤ w.length then .tup [vL i h w, .int .i64 9] else .tup [vL i h (w ++ [t]), .int .i64 0]
def cR19Ask : Ctr := pureC (fun a => isL (nth a 0 .any) ∧ (lWa (nth a 0 .any)).length ≤ 1000000 ∧ ∃ t, a = [nth a 0 .any, .int .i64 t]) (fun a => r19Ask (lId (nth a 0 .any)) (lHo (nth a 0 .any)) (lWa (nth a 0 .any)) (numOf (nth a 1 .any)))
theorem known_R19Ask : Known Try.prog 29 cR19Ask := by
  rintro args H ⟨hi, hl, t, ha⟩
  rw [hi] at ha
  generalize lId (nth args 0 .any) = i at *
  generalize lHo (nth args 0 .any) = h at *
  generalize lWa (nth args 0 .any) = w at *
  subst ha
  simp only [cR19Ask, pureC, nth_zero, nth_succ, lId_vL, lHo_vL, lWa_vL, numOf]
  refine (det_r19_Ask i h w t hl).pure (fun y hy => by simp at hy; rcases hy with rfl | rfl <;> first | exact closed_vL _ _ _ | exact closed_int _ _) ?_ H
  split
  · exact closed_tup2 (closed_vL _ _ _) (closed_int _ _)
  · split
    · exact closed_tup2 (closed_vL _ _ _) (closed_int _ _)
    · split <;> exact closed_tup2 (closed_vL _ _ _) (closed_int _ _)
def r19Leave (i h : Int) (w : List Int) (t : Int) : AV := if 0 < t ∧ h = t then .tup [vL i 0 w, .int .i64 2] else if t ∈ w then .tup [vL i h (w.filter (· ≠ t)), .int .i64 1] else .tup [vL i h w, .int .i64 0]
def cR19Leave : Ctr := pureC (fun a => isL (nth a 0 .any) ∧ (lWa (nth a 0 .any)).length ≤ 1000000 ∧ ∃ t, a = [nth a 0 .any, .int .i64 t]) (fun a => r19Leave (lId (nth a 0 .any)) (lHo (nth a 0 .any)) (lWa (nth a 0 .any)) (numOf (nth a 1 .any)))
theorem known_R19Leave : Known Try.prog 33 cR19Leave := by
  rintro args H ⟨hi, hl, t, ha⟩
  rw [hi] at ha
  generalize lId (nth args 0 .any) = i at *
  generalize lHo (nth args 0 .any) = h at *
  generalize lWa (nth args 0 .any) = w at *
  subst ha
  simp only [cR19Leave, pureC, nth_zero, nth_succ, lId_vL, lHo_vL, lWa_vL, numOf]
  refine (det_r19_Leave i h w t hl).pure (fun y hy => by simp at hy; rcases hy with rfl | rfl <;> first | exact closed_vL _ _ _ | exact closed_int _ _) ?_ H
  split
  · exact closed_tup2 (closed_vL _ _ _) (closed_int _ _)
  · split <;> exact closed_tup2 (closed_vL _ _ _) (closed_int _ _)
def r19Grant (i h : Int) (w : List Int) : AV := if h ≠ 0 then .tup [vL i h w, .int .i64 0, .bool false] else match w with | [] => .tup [vL i h [], .int .i64 0, .bool false] | y :: ys => .tup [vL i y ys, .int .i64 y, .bool true]
def cR19Grant : Ctr := pureC (fun a => isL (nth a 0 .any) ∧ (lWa (nth a 0 .any)).length ≤ 1000000 ∧ a = [nth a 0 .any]) (fun a => r19Grant (lId (nth a 0 .any)) (lHo (nth a 0 .any)) (lWa (nth a 0 .any)))
theorem known_R19Grant : Known Try.prog 31 cR19Grant := by
  rintro args H ⟨hi, hl, ha⟩
  rw [hi] at ha
  generalize lId (nth args 0 .any) = i at *
  generalize lHo (nth args 0 .any) = h at *
  generalize lWa (nth args 0 .any) = w at *
  subst ha
  simp only [cR19Grant, pureC, nth_zero, nth_succ, lId_vL, lHo_vL, lWa_vL, numOf]
  have key : Det Try.prog 31 [vL i h w] [] (r19Grant i h w) [] := by
    have := det_r19_Grant i h w hl
    cases w <;> exact this
  refine key.pure (fun y hy => by simp at hy; subst hy; exact closed_vL _ _ _) ?_ H
  unfold r19Grant
  split
  · exact closed_tup3 (closed_vL _ _ _) (closed_int _ _) (closed_bool _)
  · split <;> exact closed_tup3 (closed_vL _ _ _) (closed_int _ _) (closed_bool _)
end Go.Proofs.Ytphkdomiehboaaa.Sx
