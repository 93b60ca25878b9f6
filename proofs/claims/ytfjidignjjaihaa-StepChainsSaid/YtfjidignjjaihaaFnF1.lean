/- What is found in a state, by the program and by the document's answer (only for StateFinds). No conditions: a kit of our own. -/
import Derived.Test.YtfjidignjjaihaaFnC5
namespace Go.Proofs.Ytfjidignjjaihaa.Sx
open Go Go.RowKit
set_option linter.unusedVariables false
set_option linter.unusedSimpArgs false

def cWorker1 : Ctr := C2 (fun (x : Hand) (n : Bx Int) => True) fun x n => .bool (decide (x.ID = n.v))
def cstate_Worker : Ctr := V2 (fun (s : Stt) (n : Int) => s.Crew.length ≤ 9223372036854775807) fun s n => fnd Hand.zero (fun x : Hand => decide (x.ID = n)) s.Crew
def cUnit1 : Ctr := C2 (fun (x : Hand) (n : Bx Int) => True) fun x n => .bool (decide (x.ID = n.v))
def cstate_Unit : Ctr := V2 (fun (s : Stt) (n : Int) => s.Units.length ≤ 9223372036854775807) fun s n => fnd Hand.zero (fun x : Hand => decide (x.ID = n)) s.Units
abbrev CLease1 : Type := Clo1 193 Int
theorem det_Lease1 (x : Lse) (n : Bx Int) : Det Try.prog 193 [en x, en n] [] (.bool (decide (x.Token = n.v))) [] := by
  refine det_finF mixed0 knows_nil ok_state_Lease_1 1 (by simp) ?_
  simp [ic_state_Lease_1, rs_state_Lease_1]
def cLease1 : Ctr := C2 (fun (x : Lse) (n : Bx Int) => True) fun x n => .bool (decide (x.Token = n.v))
theorem known_Lease1 : Known Try.prog 193 cLease1 := known_C2 (fun x n _ => det_Lease1 x n) fun x n => flat_bool _
theorem det_IndexLease (l : List Lse) (q : CLease1) (hl : l.length ≤ 9223372036854775807) : Det Try.prog 206 [en l, en q] [] (.int .i64 (fidx (fun x : Lse => decide (x.Token = q.v)) l 0)) [] := by
  refine det_finF mixed0 (knows_cons known_Lease1 knows_nil) ok_slices_IndexFunc_api_Lease_api_Lease 1 (by simp) ?_
  simp [ic_slices_IndexFunc_api_Lease_api_Lease, rs_slices_IndexFunc_api_Lease_api_Lease]
  refine LoopC.scanB Lse.zero l (fun i (_ : Unit) => ⟨[(0, .view (l.map Cel.c)), (1, en q), (7, .int .i64 l.length), (8, .int .i64 i)], []⟩) (fun i _ r => fidx (fun x : Lse => decide (x.Token = q.v)) l 0 = fidx (fun x : Lse => decide (x.Token = q.v)) r i) () (by simp; intros; exact low_vp1 _) (by simp) rfl (fun i a r b hi ha hd hG => ?_) fun b hG => ?_
  · rw [hG]
    simp [hi, ha, cLease1, fidx, vcLoose]
    by_cases he : a.Token = q.v
    · simp [he]
    · simp [he]; omega
  · rw [hG]
    simp [fidx]
def cIndexLease : Ctr := C2 (fun (l : List Lse) (q : CLease1) => l.length ≤ 9223372036854775807) fun l q => .int .i64 (fidx (fun x : Lse => decide (x.Token = q.v)) l 0)
theorem known_IndexLease : Known Try.prog 206 cIndexLease := known_C2 (fun l q h => det_IndexLease l q h) fun l q => flat_int _ _
theorem det_findLease (l : List Lse) (q : CLease1) (hl : l.length ≤ 9223372036854775807) : Det Try.prog 192 [en l, en q] [] (fnd Lse.zero (fun x : Lse => decide (x.Token = q.v)) l) [] := by
  refine det_finF mixed0 (knows_cons known_IndexLease knows_nil) ok_state_find_api_Lease 3 (by simp) ?_
  have hb := fidx_in (fun x : Lse => decide (x.Token = q.v)) l 0 (by omega)
  unfold fnd
  obtain ⟨k, hk⟩ : ∃ k, fidx (fun x : Lse => decide (x.Token = q.v)) l 0 = k := ⟨_, rfl⟩
  rw [hk] at hb ⊢
  simp [ic_state_find_api_Lease, rs_state_find_api_Lease, cIndexLease, hl, hk]
  repeat erw [hk]
  by_cases h0 : k < 0
  · have h1 : ¬ 0 ≤ k := by omega
    simp [atK, h0, h1, Lse.zero]
  · simp [atK, h0]
    omega
def cFindLease : Ctr := N2 (fun (l : List Lse) (q : CLease1) => l.length ≤ 9223372036854775807) fun l q => fnd Lse.zero (fun x : Lse => decide (x.Token = q.v)) l
theorem known_findLease : Known Try.prog 192 cFindLease := known_N2 (fun l q h => det_findLease l q h) fun l q _ => closed_fnd _ _ _
theorem det_state_Lease (s : Stt) (n : Int) (hl : s.Leases.length ≤ 9223372036854775807) : Det Try.prog 137 [en s, en n] [] (fnd Lse.zero (fun x : Lse => decide (x.Token = n)) s.Leases) [] := by
  refine det_finF mixed0 (knows_cons known_findLease knows_nil) ok_state_Lease 3 (by simp) ?_
  simp [ic_state_Lease, rs_state_Lease, cFindLease, fnd, hl]
def cstate_Lease : Ctr := V2 (fun (s : Stt) (n : Int) => s.Leases.length ≤ 9223372036854775807) fun s n => fnd Lse.zero (fun x : Lse => decide (x.Token = n)) s.Leases
theorem known_state_Lease : Known Try.prog 137 cstate_Lease := known_V2 (fun s n h => det_state_Lease s n h) fun s n _ => closed_fnd _ _ _

def cFnd (α : Type) [Cel α] (p : α → Int → Bool) : Ctr := C2 (fun (l : List α) (n : Int) => l.length ≤ 9223372036854775807) fun l n => .int .i64 (fidx (fun x => p x n) l 0)
theorem det_r23_Find (l : List Tsk) (n : Int) (hl : l.length ≤ 9223372036854775807) : Det Try.prog 186 [en l, en n] [] (.int .i64 (fidx (fun x => decide (x.Sp.ID = n)) l 0)) [] := by
  refine det_finF mixed0 knows_nil ok_r23_Find 1 (by simp) ?_
  simp [ic_r23_Find, rs_r23_Find]
  refine LoopC.scanB Tsk.zero l (fun i (_ : Unit) => ⟨[(0, .view (l.map Cel.c)), (1, .int .i64 n), (5, .int .i64 i)], []⟩) (fun i _ r => fidx (fun x => decide (x.Sp.ID = n)) l 0 = fidx (fun x => decide (x.Sp.ID = n)) r i) () (by simp) (by simp) rfl (fun i a r b hi ha hd hG => ?_) fun b hG => ?_
  · rw [hG]
    simp [hi, ha, fidx]
    by_cases he : a.Sp.ID = n
    · simp [he]
    · simp [he]; omega
  · rw [hG]
    simp [fidx]
theorem known_r23_Find : Known Try.prog 186 (cFnd Tsk fun x n => decide (x.Sp.ID = n)) := known_C2 (fun l n h => det_r23_Find l n h) fun l n => flat_int _ _
theorem det_r25_Find (l : List Hand) (n : Int) (hl : l.length ≤ 9223372036854775807) : Det Try.prog 55 [en l, en n] [] (.int .i64 (fidx (fun x => decide (x.ID = n)) l 0)) [] := by
  refine det_finF mixed0 knows_nil ok_r25_Find 1 (by simp) ?_
  simp [ic_r25_Find, rs_r25_Find]
  refine LoopC.scanB Hand.zero l (fun i (_ : Unit) => ⟨[(0, .view (l.map Cel.c)), (1, .int .i64 n), (5, .int .i64 i)], []⟩) (fun i _ r => fidx (fun x => decide (x.ID = n)) l 0 = fidx (fun x => decide (x.ID = n)) r i) () (by simp) (by simp) rfl (fun i a r b hi ha hd hG => ?_) fun b hG => ?_
  · rw [hG]
    simp [hi, ha, fidx]
    by_cases he : a.ID = n
    · simp [he]
    · simp [he]; omega
  · rw [hG]
    simp [fidx]
theorem known_r25_Find : Known Try.prog 55 (cFnd Hand fun x n => decide (x.ID = n)) := known_C2 (fun l n h => det_r25_Find l n h) fun l n => flat_int _ _
theorem det_r26_Find (l : List Lse) (n : Int) (hl : l.length ≤ 9223372036854775807) : Det Try.prog 188 [en l, en n] [] (.int .i64 (fidx (fun x => decide (x.Token = n)) l 0)) [] := by
  refine det_finF mixed0 knows_nil ok_r26_Find 1 (by simp) ?_
  simp [ic_r26_Find, rs_r26_Find]
  refine LoopC.scanB Lse.zero l (fun i (_ : Unit) => ⟨[(0, .view (l.map Cel.c)), (1, .int .i64 n), (5, .int .i64 i)], []⟩) (fun i _ r => fidx (fun x => decide (x.Token = n)) l 0 = fidx (fun x => decide (x.Token = n)) r i) () (by simp) (by simp) rfl (fun i a r b hi ha hd hG => ?_) fun b hG => ?_
  · rw [hG]
    simp [hi, ha, fidx]
    by_cases he : a.Token = n
    · simp [he]
    · simp [he]; omega
  · rw [hG]
    simp [fidx]
theorem known_r26_Find : Known Try.prog 188 (cFnd Lse fun x n => decide (x.Token = n)) := known_C2 (fun l n h => det_r26_Find l n h) fun l n => flat_int _ _
theorem det_r30_Task (s : Stt) (n : Int) (hl : s.Tasks.length ≤ 9223372036854775807) : Det Try.prog 127 [en s, en n] [] (fnd Tsk.zero (fun x : Tsk => decide (x.Sp.ID = n)) s.Tasks) [] := by
  refine det_finF mixed0 (knows_cons known_r23_Find knows_nil) ok_r30_Task 3 (by simp) ?_
  have hb := fidx_in (fun x : Tsk => decide (x.Sp.ID = n)) s.Tasks 0 (by omega)
  unfold fnd
  obtain ⟨k, hk⟩ : ∃ k, fidx (fun x : Tsk => decide (x.Sp.ID = n)) s.Tasks 0 = k := ⟨_, rfl⟩
  rw [hk] at hb ⊢
  simp [ic_r30_Task, rs_r30_Task, cFnd, hl, hk]
  repeat erw [hk]
  by_cases h0 : k < 0
  · have h1 : ¬ 0 ≤ k := by omega
    simp [atK, h0, h1, Tsk.zero, Spec.zero, Pt.zero]
  · simp [atK, h0]
    omega
theorem known_r30_Task : Known Try.prog 127 cstate_Task := known_V2 (fun s n h => det_r30_Task s n h) fun s n _ => closed_fnd _ _ _
theorem det_r30_Hand (l : List Hand) (n : Int) (hl : l.length ≤ 9223372036854775807) : Det Try.prog 130 [en l, en n] [] (fnd Hand.zero (fun x : Hand => decide (x.ID = n)) l) [] := by
  refine det_finF mixed0 (knows_cons known_r25_Find knows_nil) ok_r30_Hand 3 (by simp) ?_
  have hb := fidx_in (fun x : Hand => decide (x.ID = n)) l 0 (by omega)
  unfold fnd
  obtain ⟨k, hk⟩ : ∃ k, fidx (fun x : Hand => decide (x.ID = n)) l 0 = k := ⟨_, rfl⟩
  rw [hk] at hb ⊢
  simp [ic_r30_Hand, rs_r30_Hand, cFnd, hl, hk]
  repeat erw [hk]
  by_cases h0 : k < 0
  · have h1 : ¬ 0 ≤ k := by omega
    simp [atK, h0, h1, Hand.zero]
  · simp [atK, h0]
    omega
def cr30_Hand : Ctr := V2 (fun (l : List Hand) (n : Int) => l.length ≤ 9223372036854775807) fun l n => fnd Hand.zero (fun x : Hand => decide (x.ID = n)) l
theorem known_r30_Hand : Known Try.prog 130 cr30_Hand := known_V2 (fun s n h => det_r30_Hand s n h) fun s n _ => closed_fnd _ _ _
theorem det_r30_Lease (s : Stt) (n : Int) (hl : s.Leases.length ≤ 9223372036854775807) : Det Try.prog 131 [en s, en n] [] (fnd Lse.zero (fun x : Lse => decide (x.Token = n)) s.Leases) [] := by
  refine det_finF mixed0 (knows_cons known_r26_Find knows_nil) ok_r30_Lease 3 (by simp) ?_
  have hb := fidx_in (fun x : Lse => decide (x.Token = n)) s.Leases 0 (by omega)
  unfold fnd
  obtain ⟨k, hk⟩ : ∃ k, fidx (fun x : Lse => decide (x.Token = n)) s.Leases 0 = k := ⟨_, rfl⟩
  rw [hk] at hb ⊢
  simp [ic_r30_Lease, rs_r30_Lease, cFnd, hl, hk]
  repeat erw [hk]
  by_cases h0 : k < 0
  · have h1 : ¬ 0 ≤ k := by omega
    simp [atK, h0, h1, Lse.zero]
  · simp [atK, h0]
    omega
theorem known_r30_Lease : Known Try.prog 131 cstate_Lease := known_V2 (fun s n h => det_r30_Lease s n h) fun s n _ => closed_fnd _ _ _

end Go.Proofs.Ytfjidignjjaihaa.Sx
