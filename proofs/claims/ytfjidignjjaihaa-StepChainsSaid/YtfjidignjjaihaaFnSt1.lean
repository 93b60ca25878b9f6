/- Package step: what stays, counts, people, leases. No conditions: a kit of our own. -/
import Derived.Test.YtfjidignjjaihaaFnF1
import Derived.Test.YtfjidignjjaihaaFnI3
import Derived.Test.YtfjidignjjaihaaTy14
import Derived.Test.YtfjidignjjaihaaIrSt
namespace Go.Proofs.Ytfjidignjjaihaa.Sx
open Go Go.RowKit
set_option linter.unusedVariables false
set_option linter.unusedSimpArgs false

/-- Whether a lease is as it was, or further. -/
def keptB (x y : Lse) : Bool := decide (x.Task = y.Task) && decide (x.Worker = y.Worker) && decide (x.Un = y.Un) && decide (x.Want = y.Want) && decide (x.Got ≤ y.Got) && (decide (x.Due < 0) || decide (x.Due = y.Due))
theorem det_step_kept (x y : Lse) (hx : x.Want.length ≤ 9223372036854775807) : Det Try.prog 138 [en x, en y] [] (.bool (keptB x y)) [] := by
  refine det_finF mixed0 (knows_cons known_Equal knows_nil) ok_step_kept 1 (by simp) ?_
  simp [ic_step_kept, rs_step_kept, cInts, hx, vcLoose, heapsOf, keptB, Bool.and_assoc]
  grind
def cKept : Ctr := C2 (fun x y : Lse => x.Want.length ≤ 9223372036854775807) fun x y => .bool (keptB x y)
theorem known_Kept : Known Try.prog 138 cKept := known_C2 (fun x y h => det_step_kept x y h) fun x y => flat_bool _
def risesB (p : Par) : Bool := decide (p.A.Now ≤ p.B.Now) && decide (p.A.Seq ≤ p.B.Seq) && decide (p.A.Token ≤ p.B.Token)
theorem det_step_rises (p : Par) : Det Try.prog 67 [en p] [] (.bool (risesB p)) [] := by
  refine det_finF mixed0 knows_nil ok_step_pair_rises 1 (by simp) ?_
  simp [ic_step_pair_rises, rs_step_pair_rises, vcLoose, heapsOf, risesB]
def cRisesP : Ctr := C1 (fun p : Par => True) fun p => .bool (risesB p)
theorem known_risesP : Known Try.prog 67 cRisesP := known_C1 (fun p _ => det_step_rises p) fun p => flat_bool _

/-! ### what is said of all tasks -/
/-- Lists in it are short. -/
structure shortS (s : Stt) : Prop where
  t : s.Tasks.length ≤ 70
  c : s.Crew.length ≤ 40
  u : s.Units.length ≤ 40
  l : s.Leases.length ≤ 40
  ts : ∀ x ∈ s.Tasks, x.Sp.After.length ≤ 1000 ∧ x.Burnt.length ≤ 1000
  ls : ∀ x ∈ s.Leases, x.Want.length ≤ 1000
theorem few_short {s : Stt} (h : fewS s = true) : shortS s := by
  simp [fewS, fewT] at h
  obtain ⟨⟨⟨⟨⟨⟨⟨h1, h2⟩, h3⟩, h4⟩, h5⟩, h6⟩, h7⟩, h8⟩ := h
  exact ⟨h1, h3, h4, h5, fun x hx => ⟨by have := (h2 x hx).1; omega, by have := (h2 x hx).2; omega⟩, fun x hx => by have := h7 x hx; omega⟩
def tskA (s : Stt) (n : Int) : Tsk := atK Tsk.zero s.Tasks (fidx (fun x : Tsk => decide (x.Sp.ID = n)) s.Tasks 0)
def tskB (s : Stt) (n : Int) : Bool := decide (0 ≤ fidx (fun x : Tsk => decide (x.Sp.ID = n)) s.Tasks 0)
def lseA (s : Stt) (n : Int) : Lse := atK Lse.zero s.Leases (fidx (fun x : Lse => decide (x.Token = n)) s.Leases 0)
def lseB (s : Stt) (n : Int) : Bool := decide (0 ≤ fidx (fun x : Lse => decide (x.Token = n)) s.Leases 0)
theorem atK_mem {α : Type} (z : α) (p : α → Bool) (l : List α) : atK z l (fidx p l 0) = z ∨ atK z l (fidx p l 0) ∈ l := by
  unfold atK
  split
  · exact .inl rfl
  · rename_i h
    rcases fidx_in p l 0 (by omega) with h1 | h1
    · omega
    · have hlt : (fidx p l 0).toNat < l.length := by omega
      rw [nth_get hlt]
      exact .inr (List.getElem_mem hlt)
theorem tskA_short {s : Stt} (h : shortS s) (n : Int) : (tskA s n).Sp.After.length ≤ 1000 ∧ (tskA s n).Burnt.length ≤ 1000 := by
  rcases atK_mem Tsk.zero (fun x : Tsk => decide (x.Sp.ID = n)) s.Tasks with h1 | h1
  · unfold tskA; rw [h1]; simp [Tsk.zero]
  · exact h.ts _ h1
theorem lseA_short {s : Stt} (h : shortS s) (n : Int) : (lseA s n).Want.length ≤ 1000 := by
  rcases atK_mem Lse.zero (fun x : Lse => decide (x.Token = n)) s.Leases with h1 | h1
  · unfold lseA; rw [h1]; simp [Lse.zero]
  · exact h.ls _ h1
def cTq (q : Tsk → Tsk → Bool → Bool) : Ctr := C3 (fun (x y : Tsk) (t : Bool) => (x.Sp.After.length ≤ 1000 ∧ x.Burnt.length ≤ 1000) ∧ y.Burnt.length ≤ 1000) fun x y t => .bool (q x y t)
def staysQ (x y : Tsk) (t : Bool) : Bool := t && decide (x.Sp = y.Sp) && (decide (x.Status < 4) || decide (6 < x.Status) || decide (x.Status = y.Status))
def countsQ (x y : Tsk) (t : Bool) : Bool := !t || (decide (x.Lost ≤ y.Lost) && inL x.Burnt y.Burnt && (decide (x.Seq = 0) || decide (x.Seq = y.Seq) && decide (x.Since = y.Since)))
theorem det_stays1 (x y : Tsk) (t : Bool) (h : x.Sp.After.length ≤ 1000) : Det Try.prog 133 [en x, en y, en t] [] (.bool (staysQ x y t)) [] := by
  refine det_finF mixed0 (knows_cons known_TaskSame knows_nil) ok_step_pair_stays_1 1 (by simp) ?_
  have h' : x.Sp.After.length ≤ 9223372036854775807 := by omega
  simp [ic_step_pair_stays_1, rs_step_pair_stays_1, cR22Same, h', vcLoose, heapsOf, staysQ, Bool.and_assoc, Bool.or_assoc]
  grind
theorem known_stays1 : Known Try.prog 133 (cTq staysQ) := known_C3 (fun x y t h => det_stays1 x y t h.1.1) fun x y t => flat_bool _
theorem det_counts1 (x y : Tsk) (t : Bool) (h : x.Burnt.length ≤ 1000) (h2 : y.Burnt.length ≤ 1000) : Det Try.prog 134 [en x, en y, en t] [] (.bool (countsQ x y t)) [] := by
  refine det_finF mixed0 (knows_cons known_IdWithin knows_nil) ok_step_pair_counts_1 1 (by simp) ?_
  have h' : x.Burnt.length ≤ 536870911 := by omega
  have h2' : y.Burnt.length ≤ 536870911 := by omega
  simp [ic_step_pair_counts_1, rs_step_pair_counts_1, cIdWithin, h', h2', vcLoose, heapsOf, countsQ]
  exact fun h _ _ => h
theorem known_counts1 : Known Try.prog 134 (cTq countsQ) := known_C3 (fun x y t h => det_counts1 x y t h.1.2 h.2) fun x y t => flat_bool _
def tasks1Q (q : Tsk → Tsk → Bool → Bool) (p : Par) (t : Tsk) : Bool := !q (tskA p.A t.Sp.ID) (tskA p.B t.Sp.ID) (tskB p.B t.Sp.ID)
section
variable {f : FuncId} {q : Tsk → Tsk → Bool → Bool} (hf : Known Try.prog f (cTq q)) (hne : f ≠ 99)
include hf hne
theorem det_tasks1 (t : Tsk) (p : Bx Par) (g : Bx (FnC f)) (ha : shortS p.v.A) (hb : shortS p.v.B) : Det Try.prog 190 [en t, en p, en g] [] (.bool (tasks1Q q p.v t)) [] := by
  refine det_finF mixed0 (knows_cons known_state_Task (knows_cons hf knows_nil)) ok_step_pair_tasks_1 1 (by simp) ?_
  have h1 : p.v.A.Tasks.length ≤ 9223372036854775807 := by have := ha.t; omega
  have h2 : p.v.B.Tasks.length ≤ 9223372036854775807 := by have := hb.t; omega
  have h3 := tskA_short ha t.Sp.ID
  have h4 := tskA_short hb t.Sp.ID
  unfold tskA at h3 h4
  simp [ic_step_pair_tasks_1, rs_step_pair_tasks_1, cstate_Task, cTq, h1, h2, fnd, tasks1Q, tskA, tskB, hne, hne.symm]
  exact ⟨⟨h3, h4.2⟩, rfl⟩
abbrev QTk (f : FuncId) : Type := Clo2 190 Par (FnC f)
def cTasks1 (f : FuncId) (q : Tsk → Tsk → Bool → Bool) : Ctr := C3 (fun (t : Tsk) (p : Bx Par) (g : Bx (FnC f)) => shortS p.v.A ∧ shortS p.v.B) fun t p g => .bool (tasks1Q q p.v t)
theorem known_tasks1 : Known Try.prog 190 (cTasks1 f q) := known_C3 (fun t p g h => det_tasks1 hf hne t p g h.1 h.2) fun t p g => flat_bool _
theorem det_IndexTq (l : List Tsk) (k : QTk f) (hl : l.length ≤ 9223372036854775807) (ha : shortS k.v.A) (hb : shortS k.v.B) : Det Try.prog 199 [en l, en k] [] (.int .i64 (fidx (tasks1Q q k.v) l 0)) [] := by
  refine det_finF mixed0 (knows_cons (known_tasks1 hf hne) knows_nil) ok_slices_IndexFunc_api_Task_api_Task 1 (by simp) ?_
  simp [ic_slices_IndexFunc_api_Task_api_Task, rs_slices_IndexFunc_api_Task_api_Task]
  refine LoopC.scanB Tsk.zero l (fun i (_ : Unit) => ⟨[(0, .view (l.map Cel.c)), (1, en k), (7, .int .i64 l.length), (8, .int .i64 i)], []⟩) (fun i _ r => fidx (tasks1Q q k.v) l 0 = fidx (tasks1Q q k.v) r i) () (fun _ _ _ _ _ => ⟨Nat.zero_le _, ⟨lowTm_cons (low_viewc l) (lowTm_cons (low_en k) (lowTm_cons (low_int _ _) (lowTm_cons (low_int _ _) (lowTm_nil _)))), fun o h => by simp at h⟩⟩) (by simp) rfl (fun i a r b hi hx hd hG => ?_) fun b hG => ?_
  · rw [hG]
    cases he : tasks1Q q k.v a
    · simp [hi, hx, cTasks1, fidx, vcLoose, he, ha, hb]; omega
    · simp [hi, hx, cTasks1, fidx, vcLoose, he, ha, hb]
  · rw [hG]
    simp [fidx]
def cIndexTq (f : FuncId) (q : Tsk → Tsk → Bool → Bool) : Ctr := C2 (fun (l : List Tsk) (k : QTk f) => l.length ≤ 9223372036854775807 ∧ shortS k.v.A ∧ shortS k.v.B) fun l k => .int .i64 (fidx (tasks1Q q k.v) l 0)
theorem known_IndexTq : Known Try.prog 199 (cIndexTq f q) := known_C2 (fun l k h => det_IndexTq hf hne l k h.1 h.2.1 h.2.2) fun l k => flat_int _ _
theorem det_ContainsTq (l : List Tsk) (k : QTk f) (hl : l.length ≤ 9223372036854775807) (ha : shortS k.v.A) (hb : shortS k.v.B) : Det Try.prog 189 [en l, en k] [] (.bool (l.any (tasks1Q q k.v))) [] := by
  refine det_finF mixed0 (knows_cons (known_IndexTq hf hne) knows_nil) ok_slices_ContainsFunc_api_Task_api_Task 1 (by simp) ?_
  rw [← fidx_any _ l 0 (by omega)]
  simp [ic_slices_ContainsFunc_api_Task_api_Task, rs_slices_ContainsFunc_api_Task_api_Task, cIndexTq, hl, ha, hb]
def cContainsTq (f : FuncId) (q : Tsk → Tsk → Bool → Bool) : Ctr := C2 (fun (l : List Tsk) (k : QTk f) => l.length ≤ 9223372036854775807 ∧ shortS k.v.A ∧ shortS k.v.B) fun l k => .bool (l.any (tasks1Q q k.v))
theorem known_ContainsTq : Known Try.prog 189 (cContainsTq f q) := known_C2 (fun l k h => det_ContainsTq hf hne l k h.1 h.2.1 h.2.2) fun l k => flat_bool _
def tasksQ (q : Tsk → Tsk → Bool → Bool) (p : Par) : Bool := !p.A.Tasks.any (tasks1Q q p)
theorem det_step_tasks (p : Par) (g : FnC f) (ha : shortS p.A) (hb : shortS p.B) : Det Try.prog 132 [en p, en g] [] (.bool (tasksQ q p)) [] := by
  refine det_finF mixed0 (knows_cons (known_ContainsTq hf hne) knows_nil) ok_step_pair_tasks 1 (by simp) ?_
  have h1 : p.A.Tasks.length ≤ 9223372036854775807 := by have := ha.t; omega
  simp [ic_step_pair_tasks, rs_step_pair_tasks, cContainsTq, h1, ha, hb, tasksQ]
def cTasksP (f : FuncId) (q : Tsk → Tsk → Bool → Bool) : Ctr := C2 (fun (p : Par) (g : FnC f) => shortS p.A ∧ shortS p.B) fun p g => .bool (tasksQ q p)
theorem known_tasksP : Known Try.prog 132 (cTasksP f q) := known_C2 (fun p g h => det_step_tasks hf hne p g h.1 h.2) fun p g => flat_bool _
end
def cShort (q : Par → Bool) : Ctr := C1 (fun p : Par => shortS p.A ∧ shortS p.B) fun p => .bool (q p)
theorem det_step_stays (p : Par) (ha : shortS p.A) (hb : shortS p.B) : Det Try.prog 69 [en p] [] (.bool (tasksQ staysQ p)) [] := by
  refine det_finF mixed0 (knows_cons (known_tasksP known_stays1 (by decide)) knows_nil) ok_step_pair_stays 1 (by simp) ?_
  simp [ic_step_pair_stays, rs_step_pair_stays, cTasksP, ha, hb]
theorem known_staysP : Known Try.prog 69 (cShort (tasksQ staysQ)) := known_C1 (fun p h => det_step_stays p h.1 h.2) fun p => flat_bool _
theorem det_step_counts (p : Par) (ha : shortS p.A) (hb : shortS p.B) : Det Try.prog 71 [en p] [] (.bool (tasksQ countsQ p)) [] := by
  refine det_finF mixed0 (knows_cons (known_tasksP known_counts1 (by decide)) knows_nil) ok_step_pair_counts 1 (by simp) ?_
  simp [ic_step_pair_counts, rs_step_pair_counts, cTasksP, ha, hb]
theorem known_countsP : Known Try.prog 71 (cShort (tasksQ countsQ)) := known_C1 (fun p h => det_step_counts p h.1 h.2) fun p => flat_bool _
/-! ### people, leases -/
def leaseOk (p : Par) (l : Lse) : Bool := !(lseB p.B l.Token && !keptB (lseA p.A l.Token) (lseA p.B l.Token))
def newOk (p : Par) (y : Lse) : Bool := !(!lseB p.A y.Token && decide (y.Token ≤ p.A.Token))
def restA (p : Par) (r : List Lse) : Bool := r.all (leaseOk p) && p.B.Leases.all (newOk p)
def restB (p : Par) (r : List Lse) : Bool := r.all (newOk p)
def leasesQ (p : Par) : Bool := restA p p.A.Leases
theorem restA_nil (p : Par) : restA p [] = restB p p.B.Leases := rfl
theorem restA_cons (p : Par) (a : Lse) (r : List Lse) : restA p (a :: r) = (leaseOk p a && restA p r) := by simp [restA, Bool.and_assoc]
theorem restB_nil (p : Par) : restB p [] = true := rfl
theorem restB_cons (p : Par) (a : Lse) (r : List Lse) : restB p (a :: r) = (newOk p a && restB p r) := by simp [restB]
def cLse : Ctr := V2 (fun (s : Stt) (n : Int) => s.Leases.length ≤ 9223372036854775807) fun s n => .tup [en (lseA s n), en (lseB s n)]
theorem known_Lse {f : FuncId} (h : Known Try.prog f cstate_Lease) : Known Try.prog f cLse := h
def cTsk : Ctr := V2 (fun (s : Stt) (n : Int) => s.Tasks.length ≤ 9223372036854775807) fun s n => .tup [en (tskA s n), en (tskB s n)]
theorem known_Tsk {f : FuncId} (h : Known Try.prog f cstate_Task) : Known Try.prog f cTsk := h
attribute [local irreducible] restA restB leasesQ keptB lseA lseB in
theorem det_step_leases (p : Par) (ha : shortS p.A) (hb : shortS p.B) : Det Try.prog 75 [en p] [] (.bool (leasesQ p)) [] := by
  refine det_finF mixed0 (knows_cons (known_Lse known_state_Lease) (knows_cons known_Kept knows_nil)) ok_step_pair_leases 1 (by simp) ?_
  have h1 : p.A.Leases.length ≤ 9223372036854775807 := by have := ha.l; omega
  have h2 : p.B.Leases.length ≤ 9223372036854775807 := by have := hb.l; omega
  simp [ic_step_pair_leases, rs_step_pair_leases]
  refine LoopC.scanB Lse.zero p.A.Leases (fun i (_ : Unit) => ⟨[(1, .ptr 0 0 0), (15, .view (p.A.Leases.map Cel.c)), (16, .int .i64 p.A.Leases.length), (17, .int .i64 i)], [.rows 16 [Cel.c p]]⟩) (fun i _ r => leasesQ p = restA p r) () (by simp) (by simp) (by unfold leasesQ; rfl) (fun i a r b hi hx hd hG => ?_) fun b hG => ?_
  · have h3 : (lseA p.A a.Token).Want.length ≤ 9223372036854775807 := by have := lseA_short ha a.Token; omega
    rw [restA_cons] at hG
    rw [hG]
    cases h0 : lseB p.B a.Token
    · have ho : leaseOk p a = true := by simp [leaseOk, h0]
      simp [hi, hx, cLse, cKept, h1, h2, h3, vcLoose, heapsOf, h0, ho]
      omega
    · cases hk : keptB (lseA p.A a.Token) (lseA p.B a.Token)
      · have ho : leaseOk p a = false := by simp [leaseOk, h0, hk]
        simp [hi, hx, cLse, cKept, h1, h2, h3, vcLoose, heapsOf, h0, hk, ho]
      · have ho : leaseOk p a = true := by simp [leaseOk, hk]
        simp [hi, hx, cLse, cKept, h1, h2, h3, vcLoose, heapsOf, h0, hk, ho]
        omega
  · rw [restA_nil] at hG
    simp
    refine LoopC.scanB Lse.zero p.B.Leases (fun i (_ : Unit) => ⟨[(1, .ptr 0 0 0), (47, .view (p.B.Leases.map Cel.c)), (48, .int .i64 p.B.Leases.length), (49, .int .i64 i)], [.rows 16 [Cel.c p]]⟩) (fun i _ r => leasesQ p = restB p r) () (by simp) (by simp) hG (fun i a r b hi hx hd hG => ?_) fun b hG => ?_
    · rw [restB_cons] at hG
      rw [hG]
      cases h0 : lseB p.A a.Token
      · by_cases h4 : a.Token ≤ p.A.Token
        · have ho : newOk p a = false := by simp [newOk, h0, h4]
          simp [hi, hx, cLse, h1, h2, vcLoose, heapsOf, h0, h4, ho]
        · have ho : newOk p a = true := by simp [newOk, h4]
          simp [hi, hx, cLse, h1, h2, vcLoose, heapsOf, h0, h4, ho]
          omega
      · have ho : newOk p a = true := by simp [newOk, h0]
        simp [hi, hx, cLse, h1, h2, vcLoose, heapsOf, h0, ho]
        omega
    · rw [restB_nil] at hG
      simp [hG]
theorem known_leasesP : Known Try.prog 75 (cShort leasesQ) := known_C1 (fun p h => det_step_leases p h.1 h.2) fun p => flat_bool _
end Go.Proofs.Ytfjidignjjaihaa.Sx
