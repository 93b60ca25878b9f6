/- The statement LockDoes of the lock: its function returns true (the walk). No conditions: a kit of our own. -/
import Derived.Test.YtphkdomiehboaaaLock6
namespace Go.Proofs.Ytphkdomiehboaaa.Sx
open Go Go.RowKit
set_option linter.unusedVariables false
set_option linter.unusedSimpArgs false

theorem known_Alive19 : Known Try.prog 26 cAlive := by
  rintro args H rfl
  exact det_l19_alive.pure (by simp) (closed_bool _) H
def Γ19 : FuncId → Ctr := Γof [(26, cAlive), (27, cLockNew), (28, cAsk), (29, cR19Ask), (30, cGrant), (31, cR19Grant), (32, cLeave),
  (33, cR19Leave), (34, cHead), (36, cView), (35, cR19Same)]
@[simp] theorem g19_0 : Γ19 26 = cAlive := rfl
@[simp] theorem g19_1 : Γ19 27 = cLockNew := rfl
@[simp] theorem g19_2 : Γ19 28 = cAsk := rfl
@[simp] theorem g19_3 : Γ19 29 = cR19Ask := rfl
@[simp] theorem g19_4 : Γ19 30 = cGrant := rfl
@[simp] theorem g19_5 : Γ19 31 = cR19Grant := rfl
@[simp] theorem g19_6 : Γ19 32 = cLeave := rfl
@[simp] theorem g19_7 : Γ19 33 = cR19Leave := rfl
@[simp] theorem g19_8 : Γ19 34 = cHead := rfl
@[simp] theorem g19_9 : Γ19 36 = cView := rfl
@[simp] theorem g19_10 : Γ19 35 = cR19Same := rfl
theorem knows19 : Knows Try.prog Γ19 :=
  knows_cons known_Alive19 (knows_cons known_LockNew (knows_cons known_Ask (knows_cons known_R19Ask (knows_cons known_Grant (knows_cons known_R19Grant (knows_cons known_Leave (knows_cons known_R19Leave (knows_cons known_Head (knows_cons known_View (knows_cons known_R19Same knows_nil))))))))))
/-- The document's lock, boxed behind the lock. -/
def ubox (l : L) : AObj := .rows 3 [[.int .i64 l.id, .int .i64 l.holder, .view (l.q.all.map rI)]]
def stL (acts : List (Int × Int)) (a : Nat × L) : AS := ⟨[(5, .ptr 2 0 0), (6, .ptr 3 0 0), (27, vA acts), (28, .int .i64 acts.length), (29, .int .i64 a.1)], HLk a.2 [ubox a.2]⟩
theorem low_ubox (l : L) : ∀ o ∈ HLk l [ubox l], LowO 4 o := by
  intro o ho
  have e : HLk l [ubox l] = HLk l [] ++ [ubox l] := rfl
  rw [e, List.mem_append] at ho
  rcases ho with ho | ho
  · exact SeenO.mono (low_HLk l o ho) fun i j ⟨e, h⟩ => ⟨e, by omega⟩
  · simp only [List.mem_singleton] at ho
    subst ho
    refine .rows rfl (fun i r r' h1 h2 => by rw [h1] at h2; cases h2; rfl) fun i r r' j a b h1 h2 h3 h4 => ?_
    rw [h1] at h2; cases h2
    rw [h3] at h4; cases h4
    have hr : r = [.int .i64 l.id, .int .i64 l.holder, .view (l.q.all.map rI)] := by
      have := List.mem_of_getElem? h1
      simpa using this
    subst hr
    have ha := List.mem_of_getElem? h3
    simp only [List.mem_cons, List.not_mem_nil, or_false] at ha
    rcases ha with rfl | rfl | rfl
    · exact .int _ _
    · exact .int _ _
    · exact (closed_vI _).seen _ _
theorem stL_low (acts : List (Int × Int)) (b : Nat × L) : lowTm (stL acts b).hp.length (stL acts b).tm ∧ ∀ o ∈ (stL acts b).hp, LowO (stL acts b).hp.length o :=
  ⟨lowTm_cons (low_ptr (by simp [stL])) (lowTm_cons (low_ptr (by simp [stL])) (lowTm_cons (low_closed (closed_vA _)) (lowTm_cons (low_closed (closed_int _ _)) (lowTm_cons (low_closed (closed_int _ _)) (lowTm_nil _))))), low_ubox b.2⟩
end Go.Proofs.Ytphkdomiehboaaa.Sx
