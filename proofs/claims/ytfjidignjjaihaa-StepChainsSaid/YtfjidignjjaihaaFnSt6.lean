/- The laws StepTells and StepChains. No conditions: a kit of our own. -/
import Derived.Test.YtfjidignjjaihaaFnSt4
namespace Go.Proofs.Ytfjidignjjaihaa.Sx
open Go Go.RowKit
set_option linter.unusedVariables false
set_option linter.unusedSimpArgs false

def rulesL (p : Par) : List Bool := [risesB p, tasksQ staysQ p, tasksQ countsQ p, peopleQ p, leasesQ p]
theorem rulesL_at (p : Par) {i : Nat} (hi : i < 5) : nth (rulesL p) i false = ruleQ p i := by
  match i, hi with
  | 0, _ => rfl
  | 1, _ => rfl
  | 2, _ => rfl
  | 3, _ => rfl
  | 4, _ => rfl
/-! ### the laws, plain -/
theorem brk_app_nil {p : Par} {i : Nat} (h : brk p (i + 1) = []) : brk p i = [] ∧ ruleQ p i = true := by
  rw [brk_s, List.append_eq_nil_iff] at h
  refine ⟨h.1, ?_⟩
  cases hq : ruleQ p i
  · rw [hq] at h; simp at h
  · rfl
theorem brk_nil {p : Par} : brk p 5 = [] ↔ risesB p = true ∧ tasksQ staysQ p = true ∧ tasksQ countsQ p = true ∧ peopleQ p = true ∧ leasesQ p = true := by
  constructor
  · intro h
    have a5 := brk_app_nil h
    have a4 := brk_app_nil a5.1
    have a3 := brk_app_nil a4.1
    have a2 := brk_app_nil a3.1
    have a1 := brk_app_nil a2.1
    exact ⟨a1.2, a2.2, a3.2, a4.2, a5.2⟩
  · rintro ⟨h1, h2, h3, h4, h5⟩
    rw [brk_s, brk_s, brk_s, brk_s, brk_s, brk_0]
    simp [ruleQ, h1, h2, h3, h4, h5]
theorem tasksQ_iff {q : Tsk → Tsk → Bool → Bool} {p : Par} : tasksQ q p = true ↔ ∀ t ∈ p.A.Tasks, q (tskA p.A t.Sp.ID) (tskA p.B t.Sp.ID) (tskB p.B t.Sp.ID) = true := by
  simp [tasksQ, tasks1Q]
theorem at_in {α : Type} (z : α) (p : α → Bool) {l : List α} (h : 0 ≤ fidx p l 0) : atK z l (fidx p l 0) ∈ l ∧ p (atK z l (fidx p l 0)) = true := by
  have e := find_at z p l
  rw [if_pos h] at e
  exact ⟨List.mem_of_find?_eq_some e, List.find?_some e⟩
theorem tskB_in {s : Stt} {n : Int} (h : tskB s n = true) : tskA s n ∈ s.Tasks ∧ (tskA s n).Sp.ID = n := by
  have := at_in Tsk.zero (fun x : Tsk => decide (x.Sp.ID = n)) (l := s.Tasks) (by simpa [tskB] using h)
  simpa [tskA] using this
theorem lseB_in {s : Stt} {n : Int} (h : lseB s n = true) : lseA s n ∈ s.Leases ∧ (lseA s n).Token = n := by
  have := at_in Lse.zero (fun x : Lse => decide (x.Token = n)) (l := s.Leases) (by simpa [lseB] using h)
  simpa [lseA] using this
theorem hndB_in {l : List Hand} {n : Int} (h : hndB l n = true) : hndA l n ∈ l ∧ (hndA l n).ID = n := by
  have := at_in Hand.zero (fun x : Hand => decide (x.ID = n)) (l := l) (by simpa [hndB] using h)
  simpa [hndA] using this
theorem has_mem {α : Type} (p : α → Bool) {l : List α} {x : α} (hx : x ∈ l) (hp : p x = true) : 0 ≤ fidx p l 0 := by
  have e := find_at x p l
  apply Decidable.byContradiction
  intro h
  rw [if_neg h, List.find?_eq_none] at e
  exact e x hx hp
theorem tskB_mem {s : Stt} {t : Tsk} (h : t ∈ s.Tasks) : tskB s t.Sp.ID = true := by
  simpa [tskB] using has_mem (fun x : Tsk => decide (x.Sp.ID = t.Sp.ID)) h (by simp)
theorem lseB_mem {s : Stt} {t : Lse} (h : t ∈ s.Leases) : lseB s t.Token = true := by
  simpa [lseB] using has_mem (fun x : Lse => decide (x.Token = t.Token)) h (by simp)
theorem hndB_mem {l : List Hand} {t : Hand} (h : t ∈ l) : hndB l t.ID = true := by
  simpa [hndB] using has_mem (fun x : Hand => decide (x.ID = t.ID)) h (by simp)
theorem hands_iff {a b : List Hand} : handG b [] a = true ↔ ∀ h ∈ a, hndB b h.ID = true ∧ (hndA a h.ID).Bits = (hndA b h.ID).Bits := by
  rw [← refH_all]
  simp only [refH, List.all_eq_true, refH1, Bool.and_eq_true, decide_eq_true_eq]
  constructor <;> intro h x hx <;> have h2 := h x hx
  · rw [hndA_id hx] at h2; exact h2
  · rw [hndA_id hx]; exact h2
theorem hands_refl (a : List Hand) : handG a [] a = true := hands_iff.2 fun h hh => ⟨hndB_mem hh, rfl⟩
theorem hands_trans {a b c : List Hand} (h1 : handG b [] a = true) (h2 : handG c [] b = true) : handG c [] a = true := by
  rw [hands_iff] at *
  intro h hh
  obtain ⟨e1, e2⟩ := h1 h hh
  obtain ⟨m1, m2⟩ := hndB_in e1
  have e3 := h2 _ m1
  rw [m2] at e3
  exact ⟨e3.1, by rw [e2, e3.2]⟩
theorem leasesQ_iff {p : Par} : leasesQ p = true ↔ (∀ x ∈ p.A.Leases, lseB p.B x.Token = true → keptB (lseA p.A x.Token) (lseA p.B x.Token) = true) ∧ ∀ y ∈ p.B.Leases, lseB p.A y.Token = false → p.A.Token < y.Token := by
  simp only [leasesQ, restA, Bool.and_eq_true, List.all_eq_true, leaseOk, newOk]
  constructor
  · rintro ⟨h1, h2⟩
    refine ⟨fun x hx h => ?_, fun y hy h => ?_⟩
    · have := h1 x hx; rw [h] at this; simpa using this
    · have := h2 y hy; rw [h] at this; simpa using this
  · rintro ⟨h1, h2⟩
    refine ⟨fun x hx => ?_, fun y hy => ?_⟩
    · cases h : lseB p.B x.Token
      · rfl
      · simp [h1 x hx h]
    · cases h : lseB p.A y.Token
      · simp [h2 y hy h]
      · rfl
theorem kept_refl (x : Lse) : keptB x x = true := kept_iff.2 ⟨rfl, rfl, rfl, rfl, Int.le_refl _, .inr rfl⟩
theorem kept_trans {x y z : Lse} (h1 : keptB x y = true) (h2 : keptB y z = true) : keptB x z = true := by
  rw [kept_iff] at *
  obtain ⟨a1, a2, a3, a4, a5, a6⟩ := h1
  obtain ⟨b1, b2, b3, b4, b5, b6⟩ := h2
  exact ⟨a1.trans b1, a2.trans b2, a3.trans b3, a4.trans b4, by omega, by omega⟩
theorem stays_iff {x y : Tsk} {t : Bool} : staysQ x y t = true ↔ t = true ∧ x.Sp = y.Sp ∧ (x.Status < 4 ∨ 6 < x.Status ∨ x.Status = y.Status) := by
  simp [staysQ, and_assoc, or_assoc]
theorem counts_iff {x y : Tsk} {t : Bool} : countsQ x y t = true ↔ (t = true → x.Lost ≤ y.Lost ∧ (∀ n ∈ x.Burnt, n ∈ y.Burnt) ∧ (x.Seq = 0 ∨ x.Seq = y.Seq ∧ x.Since = y.Since)) := by
  cases t <;> simp [countsQ, inL_iff, and_assoc]
theorem step_stay (a : Stt) : brk ⟨a, a⟩ 5 = [] := by
  rw [brk_nil]
  refine ⟨by simp [risesB], tasksQ_iff.2 fun t ht => stays_iff.2 ⟨tskB_mem ht, rfl, .inr (.inr rfl)⟩, tasksQ_iff.2 fun t ht => counts_iff.2 fun _ => ⟨Int.le_refl _, fun n h => h, .inr ⟨rfl, rfl⟩⟩, ?_, leasesQ_iff.2 ⟨fun x hx _ => kept_refl _, fun y hy h => ?_⟩⟩
  · simp only [peopleQ, hands_refl, Bool.and_self]
  · rw [lseB_mem hy] at h; cases h
theorem step_chain {a b c : Stt} (hl : ∀ x ∈ a.Leases, x.Token ≤ a.Token) (h1 : brk ⟨a, b⟩ 5 = []) (h2 : brk ⟨b, c⟩ 5 = []) : brk ⟨a, c⟩ 5 = [] := by
  rw [brk_nil] at *
  obtain ⟨a1, a2, a3, a4, a5⟩ := h1
  obtain ⟨b1, b2, b3, b4, b5⟩ := h2
  rw [tasksQ_iff] at a2 a3 b2 b3
  rw [leasesQ_iff] at a5 b5
  simp only [risesB, Bool.and_eq_true, decide_eq_true_eq] at a1 b1
  simp only [peopleQ, Bool.and_eq_true] at a4 b4
  simp only [] at a2 a3 b2 b3 a5 b5 a1 b1 a4 b4
  have go : ∀ t ∈ a.Tasks, tskB b t.Sp.ID = true ∧ staysQ (tskA b t.Sp.ID) (tskA c t.Sp.ID) (tskB c t.Sp.ID) = true ∧ countsQ (tskA b t.Sp.ID) (tskA c t.Sp.ID) (tskB c t.Sp.ID) = true := fun t ht => by
    have hb := (stays_iff.1 (a2 t ht)).1
    obtain ⟨m1, m2⟩ := tskB_in hb
    have e1 := b2 _ m1
    have e2 := b3 _ m1
    rw [m2] at e1 e2
    exact ⟨hb, e1, e2⟩
  refine ⟨?_, tasksQ_iff.2 fun t ht => ?_, tasksQ_iff.2 fun t ht => ?_, ?_, leasesQ_iff.2 ⟨fun x hx h => ?_, fun y hy h => ?_⟩⟩
  · simp only [risesB, Bool.and_eq_true, decide_eq_true_eq]; omega
  · obtain ⟨g1, g2, g3⟩ := go t ht
    have e1 := stays_iff.1 (a2 t ht)
    have e2 := stays_iff.1 g2
    show staysQ (tskA a t.Sp.ID) (tskA c t.Sp.ID) (tskB c t.Sp.ID) = true
    exact stays_iff.2 ⟨e2.1, e1.2.1.trans e2.2.1, by omega⟩
  · obtain ⟨g1, g2, g3⟩ := go t ht
    show countsQ (tskA a t.Sp.ID) (tskA c t.Sp.ID) (tskB c t.Sp.ID) = true
    refine counts_iff.2 fun hc => ?_
    have e1 := counts_iff.1 (a3 t ht) g1
    have e2 := counts_iff.1 g3 hc
    exact ⟨by omega, fun n h => e2.2.1 n (e1.2.1 n h), by omega⟩
  · simp only [peopleQ, Bool.and_eq_true]
    exact ⟨hands_trans a4.1 b4.1, hands_trans a4.2 b4.2⟩
  · simp only [] at hx h ⊢
    obtain ⟨m1, m2⟩ := lseB_in h
    cases hb : lseB b x.Token
    · have e := b5.2 _ m1
      rw [m2] at e
      have := e hb
      have := hl x hx
      omega
    · have e1 := a5.1 x hx hb
      obtain ⟨n1, n2⟩ := lseB_in hb
      have e2 := b5.1 _ n1
      rw [n2] at e2
      exact kept_trans e1 (e2 h)
  · simp only [] at hy h ⊢
    cases hb : lseB b y.Token
    · have := b5.2 y hy hb; omega
    · obtain ⟨n1, n2⟩ := lseB_in hb
      have e := a5.2 _ n1
      rw [n2] at e
      exact e h
/-! ### the document's answer -/
attribute [local irreducible] risesB tasksQ handG leasesQ brk in
theorem det_r34_Breaks (a b : Stt) (ha : shortS a) (hb : shortS b) : Det Try.prog 12 [en a, en b] [] (en (brk ⟨a, b⟩ 5)) [] := by
  refine det_finF mixed0 (knows_cons known_r34_two (knows_cons known_r34_three (knows_cons known_r34_four (knows_cons known_r34_five knows_nil)))) ok_r34_Breaks 2 (by simp) ?_
  have h1 := ha.c
  have h2 := hb.c
  have h3 := ha.u
  have h4 := hb.u
  have hr : risesB ⟨a, b⟩ = (decide (a.Now ≤ b.Now) && decide (a.Seq ≤ b.Seq) && decide (a.Token ≤ b.Token)) := by unfold risesB; rfl
  simp [ic_r34_Breaks, rs_r34_Breaks, ha, hb, h1, h2, h3, h4, vcLoose, heapsOf]
  rw [← hr]
  refine LoopC.scanR false (rulesL ⟨a, b⟩) (fun i (o : List Int) => ⟨[(5, .view ((rulesL ⟨a, b⟩).map Cel.c)), (6, bs 0 (o.map Cel.c)), (7, .int .i64 i)], [bob 1 (o.map Cel.c)]⟩) (fun i o r => i ≤ 5 ∧ o = brk ⟨a, b⟩ i) [] [0] ?_ ⟨by omega, (brk_0 _).symm⟩ (fun i x r o hi hx hd ⟨hi5, ho⟩ => ?_) fun o ⟨hi5, ho⟩ => ?_
  · have cv := closed_viewc (rulesL ⟨a, b⟩)
    simp [rulesL, peopleQ] at cv
    simp [atR, rulesL, peopleQ, cv]
  · have hi' : i < 5 := hi
    have hl := brk_len ⟨a, b⟩ i
    rw [← ho] at hl
    have e := brk_s ⟨a, b⟩ i
    have hq : ruleQ ⟨a, b⟩ i = x := by rw [← rulesL_at _ hi', hx]
    rw [hq, ← ho] at e
    cases x
    · simp at e
      simp [hi, hx]
      and_intros
      all_goals first | omega | exact ⟨[1], by simp [atR, e]⟩ | skip
    · simp at e
      simp [hi, hx]
      and_intros
      all_goals first | omega | exact ⟨[0], by simp [atR, e]⟩ | skip
  · have : (rulesL ⟨a, b⟩).length = 5 := rfl
    rw [this] at ho
    simp [ho]
theorem known_r34_Breaks : Known Try.prog 12 cBreaks := known_V2 (fun a b h => det_r34_Breaks a b h.1 h.2) fun a b h => closed_en _
/-! ### the laws -/
def al34a : Stt := ⟨0, 0, 0, [⟨⟨1, 0, 0#64, 0#64, ⟨0, 0⟩, ⟨0, 0⟩, []⟩, 4, 0, 0, 0, []⟩], [], [], [], []⟩
def al34b : Stt := ⟨0, 0, 0, [⟨⟨1, 0, 0#64, 0#64, ⟨0, 0⟩, ⟨0, 0⟩, []⟩, 2, 0, 0, 0, []⟩], [], [], [], []⟩
theorem short_al34a : shortS al34a := ⟨by decide, by decide, by decide, by decide, by simp [al34a], by simp [al34a]⟩
theorem short_al34b : shortS al34b := ⟨by decide, by decide, by decide, by decide, by simp [al34b], by simp [al34b]⟩
theorem brk_al34 : brk ⟨al34a, al34b⟩ 5 = [2] := by
  have h1 : risesB ⟨al34a, al34b⟩ = true := by decide
  have h2 : tasksQ staysQ ⟨al34a, al34b⟩ = false := by decide
  have h3 : tasksQ countsQ ⟨al34a, al34b⟩ = true := tasksQ_iff.2 fun t ht => by
    simp only [al34a, List.mem_singleton] at ht
    subst ht
    refine counts_iff.2 fun _ => ?_
    have e1 : tskA al34a 1 = ⟨⟨1, 0, 0#64, 0#64, ⟨0, 0⟩, ⟨0, 0⟩, []⟩, 4, 0, 0, 0, []⟩ := rfl
    have e2 : tskA al34b 1 = ⟨⟨1, 0, 0#64, 0#64, ⟨0, 0⟩, ⟨0, 0⟩, []⟩, 2, 0, 0, 0, []⟩ := rfl
    simp only []
    rw [show tskA (⟨al34a, al34b⟩ : Par).A 1 = tskA al34a 1 from rfl, show tskA (⟨al34a, al34b⟩ : Par).B 1 = tskA al34b 1 from rfl, e1, e2]
    simp
  have h4 : peopleQ ⟨al34a, al34b⟩ = true := by
    simp only [peopleQ, Bool.and_eq_true]
    exact ⟨hands_iff.2 fun h hh => by simp [al34a] at hh, hands_iff.2 fun h hh => by simp [al34a] at hh⟩
  have h5 : leasesQ ⟨al34a, al34b⟩ = true := by decide
  rw [brk_s, brk_s, brk_s, brk_s, brk_s, brk_0]
  simp [ruleQ, h1, h2, h3, h4, h5]
end Go.Proofs.Ytfjidignjjaihaa.Sx
/- The laws StepTells and StepChains, walked. No conditions: a kit of our own. -/
namespace Go.Proofs.Ytfjidignjjaihaa.Sx
open Go Go.RowKit
set_option linter.unusedVariables false
set_option linter.unusedSimpArgs false

attribute [local irreducible] brk
theorem det_l34_alive : Det Try.prog 11 [] [] (.bool true) [] := by
  refine det_finF mixed0 (knows_cons known_StepMay (knows_cons known_StepBreaks (knows_cons known_Ints knows_nil))) ok_l34_alive 1 (by simp) ?_
  have sa := short_al34a
  have sb := short_al34b
  have ca := closed_en al34a
  have cb := closed_en al34b
  have e1 := step_stay al34a
  have e2 := brk_al34
  unfold al34a al34b at *
  simp at ca cb
  simp [ic_l34_alive, rs_l34_alive, cMay, cBreaks, cInts, vcLoose, heapsOf, ca, cb, sa, sb, e1, e2]
def c34Alive : Ctr := C0 (.bool true)
theorem known_34alive : Known Try.prog 11 c34Alive := known_C0 det_l34_alive (.bool _)
attribute [local irreducible] fewS
set_option maxRecDepth 40000 in
set_option maxHeartbeats 4000000 in
theorem det_StepTells (a : Stt) (wa : Rd.wf a) (b : Stt) (wb : Rd.wf b) : Det Try.prog 3 [en a, en b] [] (.bool true) [] := by
  refine det_finF mixed0 (knows_cons known_34alive (knows_cons known_r30_Few (knows_cons known_r34_Breaks (knows_cons known_StepBreaks (knows_cons known_StepMay (knows_cons known_Ints knows_nil)))))) ok_l34_StepTells 1 (by simp) ?_
  simp at wa wb
  by_cases hf : fewS a = true ∧ fewS b = true
  · obtain ⟨f1, f2⟩ := hf
    have s1 := few_short f1
    have s2 := few_short f2
    have o1 := few_ok f1
    have o2 := few_ok f2
    have hl := brk_len ⟨a, b⟩ 5
    have hl' : (brk ⟨a, b⟩ 5).length ≤ 9223372036854775807 := by omega
    simp [ic_l34_StepTells, rs_l34_StepTells, cr30_Few, up o1.t, up o1.c, up o1.u, up o1.l, up o1.k, up o2.t, up o2.c, up o2.u, up o2.l, up o2.k, f1, f2, s1, s2, c34Alive, cBreaks, cMay, cInts, vcLoose, heapsOf, hl']
  · cases f1 : fewS a
    · simp [ic_l34_StepTells, rs_l34_StepTells, cr30_Few, f1, c34Alive, vcLoose, heapsOf]
      exact ⟨by omega, by omega, by omega, by omega, by omega⟩
    · have o1 := few_ok f1
      have f2 : fewS b = false := by simpa [f1] using hf
      simp [ic_l34_StepTells, rs_l34_StepTells, cr30_Few, f1, f2, up o1.t, up o1.c, up o1.u, up o1.l, up o1.k, c34Alive, vcLoose, heapsOf]
      exact ⟨by omega, by omega, by omega, by omega, by omega⟩
theorem up2 {s : Stt} (h : fewS s = true) : s.Tasks.length ≤ 9223372036854775807 ∧ s.Crew.length ≤ 9223372036854775807 ∧ s.Units.length ≤ 9223372036854775807 ∧ s.Leases.length ≤ 9223372036854775807 ∧ s.Locks.length ≤ 9223372036854775807 := by
  have o := few_ok h
  exact ⟨up o.t, up o.c, up o.u, up o.l, up o.k⟩
set_option maxRecDepth 40000 in
set_option maxHeartbeats 4000000 in
theorem det_StepChains (a : Stt) (wa : Rd.wf a) (b : Stt) (wb : Rd.wf b) (c : Stt) (wc : Rd.wf c) : Det Try.prog 4 [en a, en b, en c] [] (.bool true) [] := by
  refine det_finF mixed0 (knows_cons known_34alive (knows_cons known_r30_Few (knows_cons known_StepMay knows_nil))) ok_l34_StepChains 1 (by simp) ?_
  simp at wa wb wc
  cases f1 : fewS a
  · simp [ic_l34_StepChains, rs_l34_StepChains, cr30_Few, f1, c34Alive, vcLoose, heapsOf]
    exact ⟨by omega, by omega, by omega, by omega, by omega⟩
  · have o1 := up2 f1
    cases f2 : fewS b
    · simp [ic_l34_StepChains, rs_l34_StepChains, cr30_Few, f1, f2, o1, c34Alive, vcLoose, heapsOf]
      exact ⟨by omega, by omega, by omega, by omega, by omega⟩
    · have o2 := up2 f2
      cases f3 : fewS c
      · simp [ic_l34_StepChains, rs_l34_StepChains, cr30_Few, f1, f2, f3, o1, o2, c34Alive, vcLoose, heapsOf]
        exact ⟨by omega, by omega, by omega, by omega, by omega⟩
      · have o3 := up2 f3
        have s1 := few_short f1
        have s2 := few_short f2
        have s3 := few_short f3
        have st := step_stay a
        simp [ic_l34_StepChains, rs_l34_StepChains, cr30_Few, f1, f2, f3, o1, o2, o3, s1, s2, s3, cMay, st, vcLoose, heapsOf]
        refine LoopC.scanB Lse.zero a.Leases (fun i (_ : Unit) => ⟨[(3, .ptr 0 0 0), (4, .ptr 1 0 0), (5, .ptr 2 0 0), (28, .view (a.Leases.map Cel.c)), (29, .int .i64 a.Leases.length), (30, .int .i64 i)], [.rows 8 [Cel.c a], .rows 8 [Cel.c b], .rows 8 [Cel.c c]]⟩) (fun i _ r => (∀ x ∈ r, x.Token ≤ a.Token) → ∀ x ∈ a.Leases, x.Token ≤ a.Token) () (by simp) (by simp) (fun h => h) (fun i x r u hi hx hd hG => ?_) fun u hG => ?_
        · by_cases ht : x.Token ≤ a.Token
          · simp [hi, hx, ht, c34Alive]
            exact ⟨by omega, fun h => hG fun y hy => by rcases List.mem_cons.1 hy with rfl | hy; exact ht; exact h y hy⟩
          · simp [hi, hx, ht, c34Alive]
        · have hl := hG (by simp)
          have key := @step_chain a b c hl
          by_cases h1 : brk ⟨a, b⟩ 5 = []
          · by_cases h2 : brk ⟨b, c⟩ 5 = []
            · have h3 := key h1 h2
              simp [cMay, c34Alive, h1, h2, h3, s1, s2, s3, vcLoose, heapsOf]
            · simp [cMay, c34Alive, h1, h2, s1, s2, s3, vcLoose, heapsOf]
          · simp [cMay, c34Alive, h1, s1, s2, s3, vcLoose, heapsOf]
end Go.Proofs.Ytfjidignjjaihaa.Sx
