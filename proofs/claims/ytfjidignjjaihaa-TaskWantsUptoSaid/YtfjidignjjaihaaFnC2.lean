/- Functions of package state, and of layers 23, 25, 26 and 30 of the document's answer, that find things. No conditions: a kit of our own. -/
import Derived.Test.YtfjidignjjaihaaFnC1
import Derived.Test.YtfjidignjjaihaaTy13
namespace Go.Proofs.Ytfjidignjjaihaa.Sx
open Go Go.RowKit
set_option linter.unusedVariables false
set_option linter.unusedSimpArgs false

/-- Where the first is that p holds of, from i on. -/
def fidx {α : Type} (p : α → Bool) : List α → Int → Int
  | [], _ => -1
  | x :: r, i => if p x then i else fidx p r (i + 1)
theorem fidx_in {α : Type} (p : α → Bool) : ∀ (l : List α) (i : Int), 0 ≤ i → fidx p l i = -1 ∨ (i ≤ fidx p l i ∧ fidx p l i < i + l.length)
  | [], i, h => .inl rfl
  | x :: r, i, h => by
    simp only [fidx, List.length_cons]
    split
    · right; omega
    · rcases fidx_in p r (i + 1) (by omega) with h1 | h1
      · exact .inl h1
      · right; omega
/-- What stands at k, if k is in. -/
def atK {α : Type} (z : α) (l : List α) (k : Int) : α := if k < 0 then z else nth l k.toNat z
def fnd {α : Type} [Cel α] (z : α) (p : α → Bool) (l : List α) : AV := .tup [en (atK z l (fidx p l 0)), en (decide (0 ≤ fidx p l 0))]
theorem closed_fnd {α : Type} [Cel α] (z : α) (p : α → Bool) (l : List α) : Closed (fnd z p l) := closed_tupl fun a ha => by
  rcases List.mem_cons.1 ha with rfl | ha
  · exact closed_en _
  · rcases List.mem_cons.1 ha with rfl | ha
    · exact closed_en _
    · cases ha
abbrev CTask1 : Type := Clo1 152 Int
theorem det_Task1 (x : Tsk) (n : Bx Int) : Det Try.prog 152 [en x, en n] [] (.bool (decide (x.Sp.ID = n.v))) [] := by
  refine det_finF mixed0 knows_nil ok_state_Task_1 1 (by simp) ?_
  simp [ic_state_Task_1, rs_state_Task_1]
def cTask1 : Ctr := C2 (fun (x : Tsk) (n : Bx Int) => True) fun x n => .bool (decide (x.Sp.ID = n.v))
theorem known_Task1 : Known Try.prog 152 cTask1 := known_C2 (fun x n _ => det_Task1 x n) fun x n => flat_bool _
theorem det_IndexTask (l : List Tsk) (q : CTask1) (hl : l.length ≤ 9223372036854775807) : Det Try.prog 199 [en l, en q] [] (.int .i64 (fidx (fun x : Tsk => decide (x.Sp.ID = q.v)) l 0)) [] := by
  refine det_finF mixed0 (knows_cons known_Task1 knows_nil) ok_slices_IndexFunc_api_Task_api_Task 1 (by simp) ?_
  simp [ic_slices_IndexFunc_api_Task_api_Task, rs_slices_IndexFunc_api_Task_api_Task]
  refine LoopC.scanB Tsk.zero l (fun i (_ : Unit) => ⟨[(0, .view (l.map Cel.c)), (1, en q), (7, .int .i64 l.length), (8, .int .i64 i)], []⟩) (fun i _ r => fidx (fun x : Tsk => decide (x.Sp.ID = q.v)) l 0 = fidx (fun x : Tsk => decide (x.Sp.ID = q.v)) r i) () (by simp; intros; exact low_vp1 _) (by simp) rfl (fun i a r b hi ha hd hG => ?_) fun b hG => ?_
  · rw [hG]
    simp [hi, ha, cTask1, fidx, vcLoose]
    by_cases he : a.Sp.ID = q.v
    · simp [he]
    · simp [he]; omega
  · rw [hG]
    simp [fidx]
def cIndexTask : Ctr := C2 (fun (l : List Tsk) (q : CTask1) => l.length ≤ 9223372036854775807) fun l q => .int .i64 (fidx (fun x : Tsk => decide (x.Sp.ID = q.v)) l 0)
theorem known_IndexTask : Known Try.prog 199 cIndexTask := known_C2 (fun l q h => det_IndexTask l q h) fun l q => flat_int _ _
theorem det_findTask (l : List Tsk) (q : CTask1) (hl : l.length ≤ 9223372036854775807) : Det Try.prog 151 [en l, en q] [] (fnd Tsk.zero (fun x : Tsk => decide (x.Sp.ID = q.v)) l) [] := by
  refine det_finF mixed0 (knows_cons known_IndexTask knows_nil) ok_state_find_api_Task 3 (by simp) ?_
  have hb := fidx_in (fun x : Tsk => decide (x.Sp.ID = q.v)) l 0 (by omega)
  unfold fnd
  obtain ⟨k, hk⟩ : ∃ k, fidx (fun x : Tsk => decide (x.Sp.ID = q.v)) l 0 = k := ⟨_, rfl⟩
  rw [hk] at hb ⊢
  simp [ic_state_find_api_Task, rs_state_find_api_Task, cIndexTask, hl, hk]
  repeat erw [hk]
  by_cases h0 : k < 0
  · have h1 : ¬ 0 ≤ k := by omega
    simp [atK, h0, h1, Tsk.zero, Spec.zero, Pt.zero]
  · simp [atK, h0]
    omega
def cFindTask : Ctr := N2 (fun (l : List Tsk) (q : CTask1) => l.length ≤ 9223372036854775807) fun l q => fnd Tsk.zero (fun x : Tsk => decide (x.Sp.ID = q.v)) l
theorem known_findTask : Known Try.prog 151 cFindTask := known_N2 (fun l q h => det_findTask l q h) fun l q _ => closed_fnd _ _ _
theorem det_state_Task (s : Stt) (n : Int) (hl : s.Tasks.length ≤ 9223372036854775807) : Det Try.prog 99 [en s, en n] [] (fnd Tsk.zero (fun x : Tsk => decide (x.Sp.ID = n)) s.Tasks) [] := by
  refine det_finF mixed0 (knows_cons known_findTask knows_nil) ok_state_Task 3 (by simp) ?_
  simp [ic_state_Task, rs_state_Task, cFindTask, fnd, hl]
def cstate_Task : Ctr := V2 (fun (s : Stt) (n : Int) => s.Tasks.length ≤ 9223372036854775807) fun s n => fnd Tsk.zero (fun x : Tsk => decide (x.Sp.ID = n)) s.Tasks
theorem known_state_Task : Known Try.prog 99 cstate_Task := known_V2 (fun s n h => det_state_Task s n h) fun s n _ => closed_fnd _ _ _
/-- Lists in it aren't too long. -/
def okT (x : Tsk) : Prop := x.Sp.After.length ≤ 1073741824 ∧ x.Burnt.length ≤ 1073741824
def okL (x : Lse) : Prop := x.Want.length ≤ 1073741824
def okK (x : Lck) : Prop := x.Wait.length ≤ 1073741824
def okTs (l : List Tsk) : Prop := ∀ x ∈ l, okT x
def okLs (l : List Lse) : Prop := ∀ x ∈ l, okL x
def okKs (l : List Lck) : Prop := ∀ x ∈ l, okK x
/-- How many tasks have a status. -/
def many (l : List Tsk) (n : Int) : Nat := l.countP fun x => decide (x.Status = n)
theorem many_cons (a : Tsk) (l : List Tsk) (n : Int) : many (a :: l) n = many l n + if a.Status = n then 1 else 0 := by
  simp [many, List.countP_cons]
def cMany : Ctr := C2 (fun (s : Stt) (n : Int) => s.Tasks.length ≤ 9223372036854775807) fun s n => .int .i64 (many s.Tasks n)
theorem det_state_Many (s : Stt) (n : Int) (hl : s.Tasks.length ≤ 9223372036854775807) : Det Try.prog 100 [en s, en n] [] (.int .i64 (many s.Tasks n)) [] := by
  refine det_finF mixed0 knows_nil ok_state_Many 1 (by simp) ?_
  simp [ic_state_Many, rs_state_Many]
  refine LoopC.scanB Tsk.zero s.Tasks (fun i (b : Nat) => ⟨[(1, .int .i64 n), (5, .int .i64 b), (9, .view (s.Tasks.map Cel.c)), (10, .int .i64 s.Tasks.length), (11, .int .i64 i)], []⟩) (fun i b r => many s.Tasks n = b + many r n ∧ b ≤ i) 0 (by simp) (by simp) (by simp) (fun i a r b hi ha hd hG => ?_) fun b hG => ?_
  · obtain ⟨hG, hb⟩ := hG
    rw [many_cons] at hG
    by_cases he : a.Status = n
    · simp [he] at hG
      simp [hi, ha, he]
      and_intros <;> first | omega | skip
      exact ⟨b + 1, by simp, by omega, by omega⟩
    · simp [he] at hG
      simp [hi, ha, he]
      and_intros <;> first | omega | skip
      try exact ⟨b, by simp, by omega, by omega⟩
  · simp [many] at hG
    simp [hG]
    try simp [many, hG]
theorem known_state_Many : Known Try.prog 100 cMany := known_C2 (fun s n h => det_state_Many s n h) fun s n => flat_int _ _
theorem det_r30_SameTask (x y : Tsk) (h : okT x) : Det Try.prog 115 [en x, en y] [] (.bool (decide (x = y))) [] := by
  refine det_finF mixed0 (knows_cons known_R22Same (knows_cons known_Ints knows_nil)) ok_r30_SameTask 1 (by simp) ?_
  have hx : x.Sp.After.length ≤ 9223372036854775807 := by have := h.1; omega
  have hb : x.Burnt.length ≤ 9223372036854775807 := by have := h.2; omega
  simp [ic_r30_SameTask, rs_r30_SameTask, cR22Same, cInts, hx, hb]
  rw [Bool.eq_iff_iff]
  simp [ext_Tsk, ext_Spec, ext_Pt, and_assoc]
def cSameTask : Ctr := C2 (fun x y : Tsk => okT x) fun x y => .bool (decide (x = y))
theorem known_r30_SameTask : Known Try.prog 115 cSameTask := known_C2 (fun x y h => det_r30_SameTask x y h) fun x y => flat_bool _
theorem det_r26_Same (x y : Lse) (h : okL x) : Det Try.prog 179 [en x, en y] [] (.bool (decide (x = y))) [] := by
  refine det_finF mixed0 (knows_cons known_Ints knows_nil) ok_r26_Same 1 (by simp) ?_
  have hx : x.Want.length ≤ 9223372036854775807 := Nat.le_trans h (by decide)
  simp [ic_r26_Same, rs_r26_Same, cInts, hx]
  rw [Bool.eq_iff_iff]
  simp [ext_Lse, and_assoc]
def cSameLse : Ctr := C2 (fun x y : Lse => okL x) fun x y => .bool (decide (x = y))
theorem known_r26_Same : Known Try.prog 179 cSameLse := known_C2 (fun x y h => det_r26_Same x y h) fun x y => flat_bool _
def fewT (l : List Tsk) : Bool := l.all fun x => decide (x.Sp.After.length ≤ 20) && decide (x.Burnt.length ≤ 40)
theorem det_r23_Few (l : List Tsk) (n : Int) (hl : l.length ≤ 9223372036854775807) : Det Try.prog 61 [en l, en n] [] (.bool (decide ((l.length : Int) ≤ n) && fewT l)) [] := by
  refine det_finF mixed0 knows_nil ok_r23_Few 1 (by simp) ?_
  simp [ic_r23_Few, rs_r23_Few]
  refine ⟨fun h h2 => absurd h2 (by omega), fun h => ?_⟩
  refine LoopC.scan Tsk.zero l (fun i : Nat => ⟨[(0, .view (l.map Cel.c)), (5, .int .i64 i)], []⟩) (fun r => fewT l = fewT r) (by simp) (by simp) rfl (fun i a r hi ha hG => ?_) fun hG => ?_
  · rw [hG]
    by_cases h1 : a.Sp.After.length ≤ 20
    · by_cases h2 : a.Burnt.length ≤ 40
      · simp [hi, ha, fewT, h1, h2]
        and_intros <;> first | omega | skip
      · simp [hi, ha, fewT, h1, h2]
    · simp [hi, ha, fewT, h1]
  · have hf : fewT l = true := hG
    simp [hf, h]
def cr23_Few : Ctr := C2 (fun (l : List Tsk) (n : Int) => l.length ≤ 9223372036854775807) fun l n => .bool (decide ((l.length : Int) ≤ n) && fewT l)
theorem known_r23_Few : Known Try.prog 61 cr23_Few := known_C2 (fun l n h => det_r23_Few l n h) fun l n => flat_bool _
end Go.Proofs.Ytfjidignjjaihaa.Sx
