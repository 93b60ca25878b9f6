/- The document's rules of a step (34). No conditions: a kit of our own. -/
import Derived.Test.YtfjidignjjaihaaFnSt3
namespace Go.Proofs.Ytfjidignjjaihaa.Sx
open Go Go.RowKit
set_option linter.unusedVariables false
set_option linter.unusedSimpArgs false

def endedB (n : Int) : Bool := decide (4 ≤ n) && decide (n ≤ 6)
theorem det_r24_Ended (n : Int) : Det Try.prog 128 [en n] [] (.bool (endedB n)) [] := by
  refine det_finF mixed0 knows_nil ok_r24_Ended 1 (by simp) ?_
  simp [ic_r24_Ended, rs_r24_Ended, endedB, vcLoose]
  rw [Bool.eq_iff_iff]; simp; omega
def cEnded : Ctr := C1 (fun n : Int => True) fun n => .bool (endedB n)
theorem known_Ended : Known Try.prog 128 cEnded := known_C1 (fun n _ => det_r24_Ended n) fun n => flat_bool _
def smB (x y : Spec) : Bool := decide (x = y)
def cSm : Ctr := C2 (fun x y : Spec => x.After.length ≤ 9223372036854775807) fun x y => .bool (smB x y)
theorem known_Sm : Known Try.prog 23 cSm := known_R22Same
/-! ### what is found -/
theorem find_fidx {α : Type} (z : α) (p : α → Bool) : ∀ (l : List α) (s : Nat), (fidx p l s = -1 ∧ l.find? p = none) ∨ ∃ k : Nat, fidx p l s = s + k ∧ l.find? p = some (nth l k z)
  | [], s => .inl ⟨rfl, rfl⟩
  | x :: r, s => by
    simp only [fidx]
    by_cases hx : p x = true
    · exact .inr ⟨0, by simp [hx], by simp [hx, nth]⟩
    · rcases find_fidx z p r (s + 1) with ⟨h1, h2⟩ | ⟨k, h1, h2⟩
      · have h1' : fidx p r ((s : Int) + 1) = -1 := h1
        exact .inl ⟨by simp [hx, h1'], by simp [hx, h2]⟩
      · have h1' : fidx p r ((s : Int) + 1) = ((s + 1 : Nat) : Int) + k := h1
        exact .inr ⟨k + 1, by simp [hx, h1']; omega, by simp [hx, h2, nth]⟩
theorem find_at {α : Type} (z : α) (p : α → Bool) (l : List α) : l.find? p = if 0 ≤ fidx p l 0 then some (atK z l (fidx p l 0)) else none := by
  rcases find_fidx z p l 0 with ⟨h1, h2⟩ | ⟨k, h1, h2⟩
  · have h1' : fidx p l 0 = -1 := h1
    rw [h2, h1']; rfl
  · have h1' : fidx p l 0 = k := by have : fidx p l ((0 : Nat) : Int) = _ := h1; simpa using this
    rw [h2, h1', if_pos (by omega)]
    simp [atK]
theorem at_of_mem {α : Type} (z : α) (p : α → Bool) {l : List α} {x : α} (hx : x ∈ l) (hp : p x = true) : p (atK z l (fidx p l 0)) = true := by
  have h := find_at z p l
  cases hf : l.find? p with
  | none =>
    rw [List.find?_eq_none] at hf
    exact absurd hp (by simpa using hf x hx)
  | some y =>
    rw [hf] at h
    split at h
    · cases h; exact List.find?_some hf
    · cases h
theorem tskA_id {s : Stt} {t : Tsk} (h : t ∈ s.Tasks) : (tskA s t.Sp.ID).Sp.ID = t.Sp.ID := by
  have := at_of_mem Tsk.zero (fun x : Tsk => decide (x.Sp.ID = t.Sp.ID)) h (by simp)
  simpa [tskA] using this
theorem lseA_id {s : Stt} {t : Lse} (h : t ∈ s.Leases) : (lseA s t.Token).Token = t.Token := by
  have := at_of_mem Lse.zero (fun x : Lse => decide (x.Token = t.Token)) h (by simp)
  simpa [lseA] using this
def hndA (l : List Hand) (n : Int) : Hand := atK Hand.zero l (fidx (fun x : Hand => decide (x.ID = n)) l 0)
def hndB (l : List Hand) (n : Int) : Bool := decide (0 ≤ fidx (fun x : Hand => decide (x.ID = n)) l 0)
def cHnd : Ctr := V2 (fun (l : List Hand) (n : Int) => l.length ≤ 9223372036854775807) fun l n => .tup [en (hndA l n), en (hndB l n)]
theorem known_Hnd {f : FuncId} (h : Known Try.prog f cr30_Hand) : Known Try.prog f cHnd := h
theorem hndA_id {l : List Hand} {t : Hand} (h : t ∈ l) : (hndA l t.ID).ID = t.ID := by
  have := at_of_mem Hand.zero (fun x : Hand => decide (x.ID = t.ID)) h (by simp)
  simpa [hndA] using this
/-! ### two, three -/
def refT (q : Tsk → Tsk → Bool → Bool) (p : Par) (t : Tsk) : Bool := q (tskA p.A t.Sp.ID) (tskA p.B (tskA p.A t.Sp.ID).Sp.ID) (tskB p.B (tskA p.A t.Sp.ID).Sp.ID)
def refTs (q : Tsk → Tsk → Bool → Bool) (p : Par) (r : List Tsk) : Bool := r.all (refT q p)
theorem refTs_nil (q : Tsk → Tsk → Bool → Bool) (p : Par) : refTs q p [] = true := rfl
theorem refTs_cons (q : Tsk → Tsk → Bool → Bool) (p : Par) (t : Tsk) (r : List Tsk) : refTs q p (t :: r) = (refT q p t && refTs q p r) := rfl
theorem refTs_all (q : Tsk → Tsk → Bool → Bool) (p : Par) : refTs q p p.A.Tasks = tasksQ q p := by
  rw [tasksQ, Bool.eq_iff_iff]
  simp only [refTs, List.all_eq_true, Bool.not_eq_true', List.any_eq_false, tasks1Q, refT]
  constructor
  · intro h t ht
    have := h t ht
    rw [tskA_id ht] at this
    simp [this]
  · intro h t ht
    have := h t ht
    rw [tskA_id ht]
    simpa using this
theorem stays_of (x y : Tsk) (t : Bool) : staysQ x y t = (t && smB x.Sp y.Sp && (!endedB x.Status || decide (x.Status = y.Status))) := by
  rw [Bool.eq_iff_iff]
  simp [staysQ, smB, endedB]
set_option maxHeartbeats 2000000 in
attribute [local irreducible] refTs tskA tskB lseA lseB endedB smB in
theorem det_r34_two (a b : Stt) (ha : shortS a) (hb : shortS b) : Det Try.prog 62 [en a, en b] [] (.bool (tasksQ staysQ ⟨a, b⟩)) [] := by
  rw [← refTs_all]
  refine det_finF mixed0 (knows_cons (known_Tsk known_r30_Task) (knows_cons known_Sm (knows_cons known_Ended knows_nil))) ok_r34_two 1 (by simp) ?_
  have h1 : a.Tasks.length ≤ 9223372036854775807 := by have := ha.t; omega
  have h2 : b.Tasks.length ≤ 9223372036854775807 := by have := hb.t; omega
  simp [ic_r34_two, rs_r34_two]
  refine LoopC.scanB Tsk.zero a.Tasks (fun i (_ : Unit) => ⟨[(2, .ptr 0 0 0), (3, .ptr 1 0 0), (5, .int .i64 i)], [.rows 8 [Cel.c a], .rows 8 [Cel.c b]]⟩) (fun i _ r => refTs staysQ ⟨a, b⟩ a.Tasks = refTs staysQ ⟨a, b⟩ r) () (by simp) (by simp) rfl (fun i x r u hi hx hd hG => ?_) fun u hG => ?_
  · rw [refTs_cons] at hG
    rw [hG]
    generalize hX : tskA a x.Sp.ID = X
    have hXs : X.Sp.After.length ≤ 9223372036854775807 := by have := (tskA_short ha x.Sp.ID).1; rw [hX] at this; omega
    generalize hY : tskA b X.Sp.ID = Y
    generalize h0 : tskB b X.Sp.ID = t0
    have ho : refT staysQ ⟨a, b⟩ x = staysQ X Y t0 := by simp [refT, hX, hY, h0]
    rw [stays_of] at ho
    generalize hS : smB X.Sp Y.Sp = t1 at ho
    generalize hE : endedB X.Status = t2 at ho
    cases t0
    · simp at ho
      simp [hi, hx, cTsk, cSm, cEnded, h1, h2, vcLoose, heapsOf, hX, hY, hXs, h0, ho]
    · cases t1
      · simp at ho
        simp [hi, hx, cTsk, cSm, cEnded, h1, h2, vcLoose, heapsOf, hX, hY, hXs, h0, ho, hS]
      · cases t2
        · simp at ho
          simp [hi, hx, cTsk, cSm, cEnded, h1, h2, vcLoose, heapsOf, hX, hY, hXs, h0, ho, hS, hE]
          omega
        · by_cases hst : X.Status = Y.Status
          · simp [hst] at ho
            simp [hi, hx, cTsk, cSm, cEnded, h1, h2, vcLoose, heapsOf, hX, hY, hXs, h0, ho, hS, hE, hst]
            omega
          · simp [hst] at ho
            simp [hi, hx, cTsk, cSm, cEnded, h1, h2, vcLoose, heapsOf, hX, hY, hXs, h0, ho, hS, hE, hst]
  · rw [refTs_nil] at hG
    simp [hG]
theorem known_r34_two : Known Try.prog 62 (C2 (fun a b : Stt => shortS a ∧ shortS b) fun a b => .bool (tasksQ staysQ ⟨a, b⟩)) := known_C2 (fun a b h => det_r34_two a b h.1 h.2) fun a b => flat_bool _
theorem counts_of (x y : Tsk) (t : Bool) : countsQ x y t = !(t && (decide (y.Lost < x.Lost) || decide (0 < (lessL x.Burnt y.Burnt).length) || (decide (x.Seq ≠ 0) && (decide (x.Seq ≠ y.Seq) || decide (x.Since ≠ y.Since))))) := by
  rw [Bool.eq_iff_iff]
  simp [countsQ, inL]
set_option maxHeartbeats 2000000 in
attribute [local irreducible] refTs tskA tskB lseA lseB lessL in
theorem det_r34_three (a b : Stt) (ha : shortS a) (hb : shortS b) : Det Try.prog 63 [en a, en b] [] (.bool (tasksQ countsQ ⟨a, b⟩)) [] := by
  rw [← refTs_all]
  refine det_finF mixed0 (knows_cons (known_Tsk known_r30_Task) (knows_cons known_R17Less knows_nil)) ok_r34_three 1 (by simp) ?_
  have h1 : a.Tasks.length ≤ 9223372036854775807 := by have := ha.t; omega
  have h2 : b.Tasks.length ≤ 9223372036854775807 := by have := hb.t; omega
  simp [ic_r34_three, rs_r34_three]
  refine LoopC.scanB Tsk.zero a.Tasks (fun i (_ : Unit) => ⟨[(2, .ptr 0 0 0), (3, .ptr 1 0 0), (5, .int .i64 i)], [.rows 8 [Cel.c a], .rows 8 [Cel.c b]]⟩) (fun i _ r => refTs countsQ ⟨a, b⟩ a.Tasks = refTs countsQ ⟨a, b⟩ r) () (by simp) (by simp) rfl (fun i x r u hi hx hd hG => ?_) fun u hG => ?_
  · rw [refTs_cons] at hG
    rw [hG]
    generalize hX : tskA a x.Sp.ID = X
    have hXs : X.Burnt.length ≤ 536870912 := by have := (tskA_short ha x.Sp.ID).2; rw [hX] at this; omega
    generalize hY : tskA b X.Sp.ID = Y
    have hYs : Y.Burnt.length ≤ 536870912 := by have := (tskA_short hb X.Sp.ID).2; rw [hY] at this; omega
    generalize h0 : tskB b X.Sp.ID = t0
    have ho : refT countsQ ⟨a, b⟩ x = countsQ X Y t0 := by simp [refT, hX, hY, h0]
    rw [counts_of] at ho
    generalize hS : (lessL X.Burnt Y.Burnt) = L at ho
    cases t0
    · simp at ho
      simp [hi, hx, cTsk, cLess, h1, h2, vcLoose, heapsOf, hX, hY, hXs, hYs, h0, ho, hS]
      omega
    · by_cases c1 : Y.Lost < X.Lost
      · simp [c1] at ho
        simp [hi, hx, cTsk, cLess, h1, h2, vcLoose, heapsOf, hX, hY, hXs, hYs, h0, ho, hS, c1]
      · by_cases c2 : 0 < L.length
        · simp [c2] at ho
          simp [hi, hx, cTsk, cLess, h1, h2, vcLoose, heapsOf, hX, hY, hXs, hYs, h0, ho, hS, c1, c2]
        · by_cases c3 : X.Seq = 0
          · simp [c1, c2, c3] at ho
            simp [hi, hx, cTsk, cLess, h1, h2, vcLoose, heapsOf, hX, hY, hXs, hYs, h0, ho, hS, c1, c2, c3]
            omega
          · by_cases c4 : X.Seq = Y.Seq ∧ X.Since = Y.Since
            · simp [c1, c2, c3, c4.1, c4.2] at ho
              have c5 : ¬ Y.Seq = 0 := fun h => c3 (by rw [c4.1, h])
              try simp [c5] at ho
              simp [hi, hx, cTsk, cLess, h1, h2, vcLoose, heapsOf, hX, hY, hXs, hYs, h0, ho, hS, c1, c2, c3, c4.1, c4.2, c5]
              omega
            · have ho' : refT countsQ ⟨a, b⟩ x = false := by rw [ho]; simp [c1, c2, c3]; grind
              simp [hi, hx, cTsk, cLess, h1, h2, vcLoose, heapsOf, hX, hY, hXs, hYs, h0, ho', hS, c1, c2, c3]
              grind
  · rw [refTs_nil] at hG
    simp [hG]
theorem known_r34_three : Known Try.prog 63 (C2 (fun a b : Stt => shortS a ∧ shortS b) fun a b => .bool (tasksQ countsQ ⟨a, b⟩)) := known_C2 (fun a b h => det_r34_three a b h.1 h.2) fun a b => flat_bool _
/-! ### four -/
def refH1 (a b : List Hand) (h : Hand) : Bool := hndB b (hndA a h.ID).ID && decide ((hndA a h.ID).Bits = (hndA b (hndA a h.ID).ID).Bits)
def refH (a b r : List Hand) : Bool := r.all (refH1 a b)
theorem refH_nil (a b : List Hand) : refH a b [] = true := rfl
theorem refH_cons (a b : List Hand) (h : Hand) (r : List Hand) : refH a b (h :: r) = (refH1 a b h && refH a b r) := rfl
theorem refH_all (a b : List Hand) : refH a b a = handG b [] a := by
  rw [handG_all, Bool.eq_iff_iff]
  simp only [refH, List.all_eq_true, refH1, List.any_nil, Bool.false_or]
  have key : ∀ h ∈ a, (match fstH a h.ID with | some x => chkH b x | none => false) = (hndB b (hndA a h.ID).ID && decide ((hndA a h.ID).Bits = (hndA b (hndA a h.ID).ID).Bits)) := fun h hh => by
    have e1 : fstH a h.ID = if 0 ≤ fidx (fun x : Hand => decide (x.ID = h.ID)) a 0 then some (hndA a h.ID) else none := find_at Hand.zero _ a
    cases hf : fstH a h.ID with
    | none =>
      simp only [fstH, List.find?_eq_none, decide_eq_true_eq] at hf
      exact absurd rfl (hf h hh)
    | some x =>
      rw [hf] at e1
      split at e1
      · cases e1
        generalize hndA a h.ID = x
        have e2 : (b.find? fun y => decide (y.ID = x.ID)) = if 0 ≤ fidx (fun y : Hand => decide (y.ID = x.ID)) b 0 then some (hndA b x.ID) else none := find_at Hand.zero _ b
        by_cases hc : 0 ≤ fidx (fun y : Hand => decide (y.ID = x.ID)) b 0
        · rw [if_pos hc] at e2
          have h1 : hndB b x.ID = true := decide_eq_true hc
          simp only [chkH, e2, h1, Bool.true_and]
          rw [Bool.eq_iff_iff, decide_eq_true_eq, decide_eq_true_eq]
          exact eq_comm
        · rw [if_neg hc] at e2
          have h1 : hndB b x.ID = false := decide_eq_false hc
          simp only [chkH, e2, h1, Bool.false_and]
      · cases e1
  constructor
  · intro h x hx
    exact (key x hx).trans (h x hx)
  · intro h x hx
    exact (key x hx).symm.trans (h x hx)
attribute [local irreducible] refH hndA hndB in
theorem det_r34_four (a b : List Hand) (ha : a.length ≤ 40) (hb : b.length ≤ 40) : Det Try.prog 64 [en a, en b] [] (.bool (handG b [] a)) [] := by
  rw [← refH_all]
  refine det_finF mixed0 (knows_cons (known_Hnd known_r30_Hand) knows_nil) ok_r34_four 1 (by simp) ?_
  have h1 : a.length ≤ 9223372036854775807 := by omega
  have h2 : b.length ≤ 9223372036854775807 := by omega
  simp [ic_r34_four, rs_r34_four]
  refine LoopC.scanB Hand.zero a (fun i (_ : Unit) => ⟨[(0, .view (a.map Cel.c)), (1, .view (b.map Cel.c)), (5, .int .i64 i)], []⟩) (fun i _ r => refH a b a = refH a b r) () (by simp) (by simp) rfl (fun i x r u hi hx hd hG => ?_) fun u hG => ?_
  · rw [refH_cons] at hG
    rw [hG]
    generalize hX : hndA a x.ID = X
    generalize hY : hndA b X.ID = Y
    generalize h0 : hndB b X.ID = t0
    have ho : refH1 a b x = (t0 && decide (X.Bits = Y.Bits)) := by simp [refH1, hX, hY, h0]
    cases t0
    · simp at ho
      simp [hi, hx, cHnd, h1, h2, vcLoose, heapsOf, hX, hY, h0, ho]
    · by_cases c1 : X.Bits = Y.Bits
      · simp [c1] at ho
        simp [hi, hx, cHnd, h1, h2, vcLoose, heapsOf, hX, hY, h0, ho, c1]
        omega
      · have c2 : ¬ X.Bits.toNat = Y.Bits.toNat := fun e => c1 (BitVec.eq_of_toNat_eq e)
        simp [c1] at ho
        simp [hi, hx, cHnd, h1, h2, vcLoose, heapsOf, hX, hY, h0, ho, c1, c2]
  · rw [refH_nil] at hG
    simp [hG]
theorem known_r34_four : Known Try.prog 64 (C2 (fun a b : List Hand => a.length ≤ 40 ∧ b.length ≤ 40) fun a b => .bool (handG b [] a)) := known_C2 (fun a b h => det_r34_four a b h.1 h.2) fun a b => flat_bool _
/-! ### five -/
theorem kept_iff {x y : Lse} : keptB x y = true ↔ x.Task = y.Task ∧ x.Worker = y.Worker ∧ x.Un = y.Un ∧ x.Want = y.Want ∧ x.Got ≤ y.Got ∧ (x.Due < 0 ∨ x.Due = y.Due) := by
  simp [keptB, and_assoc]
def fiveOk (p : Par) (l : Lse) : Bool := !(lseB p.B (lseA p.A l.Token).Token && !keptB (lseA p.A l.Token) (lseA p.B (lseA p.A l.Token).Token))
def fiveA (p : Par) (r : List Lse) : Bool := r.all (fiveOk p) && p.B.Leases.all (newOk p)
theorem fiveA_nil (p : Par) : fiveA p [] = restB p p.B.Leases := rfl
theorem fiveA_cons (p : Par) (a : Lse) (r : List Lse) : fiveA p (a :: r) = (fiveOk p a && fiveA p r) := by simp [fiveA, Bool.and_assoc]
theorem fiveA_all (p : Par) : fiveA p p.A.Leases = leasesQ p := by
  have : p.A.Leases.all (fiveOk p) = p.A.Leases.all (leaseOk p) := by
    rw [Bool.eq_iff_iff]
    simp only [List.all_eq_true]
    constructor <;> intro h x hx <;> have h2 := h x hx
    · rw [fiveOk, lseA_id hx] at h2; exact h2
    · rw [fiveOk, lseA_id hx]; exact h2
  rw [fiveA, this]; rfl
set_option maxHeartbeats 2000000 in
attribute [local irreducible] fiveA restB leasesQ keptB lseA lseB in
theorem det_r34_five (a b : Stt) (ha : shortS a) (hb : shortS b) : Det Try.prog 65 [en a, en b] [] (.bool (leasesQ ⟨a, b⟩)) [] := by
  rw [← fiveA_all]
  refine det_finF mixed0 (knows_cons (known_Lse known_r30_Lease) (knows_cons known_Ints knows_nil)) ok_r34_five 1 (by simp) ?_
  have h1 : a.Leases.length ≤ 9223372036854775807 := by have := ha.l; omega
  have h2 : b.Leases.length ≤ 9223372036854775807 := by have := hb.l; omega
  simp [ic_r34_five, rs_r34_five]
  refine LoopC.scanB Lse.zero a.Leases (fun i (_ : Unit) => ⟨[(2, .ptr 0 0 0), (3, .ptr 1 0 0), (5, .int .i64 i)], [.rows 8 [Cel.c a], .rows 8 [Cel.c b]]⟩) (fun i _ r => fiveA ⟨a, b⟩ a.Leases = fiveA ⟨a, b⟩ r) () (by simp) (by simp) rfl (fun i x r u hi hx hd hG => ?_) fun u hG => ?_
  · rw [fiveA_cons] at hG
    rw [hG]
    generalize hX : lseA a x.Token = X
    have hXs : X.Want.length ≤ 9223372036854775807 := by have := lseA_short ha x.Token; rw [hX] at this; omega
    generalize hY : lseA b X.Token = Y
    generalize h0 : lseB b X.Token = t0
    have ho : fiveOk ⟨a, b⟩ x = !(t0 && !keptB X Y) := by simp [fiveOk, hX, hY, h0]
    cases t0
    · simp at ho
      simp [hi, hx, cLse, cInts, h1, h2, vcLoose, heapsOf, hX, hY, hXs, h0, ho]
      omega
    · have hk := @kept_iff X Y
      cases hkk : keptB X Y
      · rw [hkk] at hk ho
        simp at ho
        simp only [Bool.false_eq_true, false_iff] at hk
        simp [hi, hx, cLse, cInts, h1, h2, vcLoose, heapsOf, hX, hY, hXs, h0, ho]
        grind
      · rw [hkk] at hk ho
        simp at ho
        simp only [true_iff] at hk
        simp [hi, hx, cLse, cInts, h1, h2, vcLoose, heapsOf, hX, hY, hXs, h0, ho]
        grind
  · rw [fiveA_nil] at hG
    simp
    refine LoopC.scanB Lse.zero b.Leases (fun i (_ : Unit) => ⟨[(2, .ptr 0 0 0), (3, .ptr 1 0 0), (10, .int .i64 i)], [.rows 8 [Cel.c a], .rows 8 [Cel.c b]]⟩) (fun i _ r => fiveA ⟨a, b⟩ a.Leases = restB ⟨a, b⟩ r) () (by simp) (by simp) hG (fun i x r u hi hx hd hG => ?_) fun u hG => ?_
    · rw [restB_cons] at hG
      rw [hG]
      cases h0 : lseB a x.Token
      · by_cases h4 : x.Token ≤ a.Token
        · have ho : newOk ⟨a, b⟩ x = false := by simp [newOk, h0, h4]
          simp [hi, hx, cLse, h1, h2, vcLoose, heapsOf, h0, h4, ho]
        · have ho : newOk ⟨a, b⟩ x = true := by simp [newOk, h4]
          simp [hi, hx, cLse, h1, h2, vcLoose, heapsOf, h0, h4, ho]
          omega
      · have ho : newOk ⟨a, b⟩ x = true := by simp [newOk, h0]
        simp [hi, hx, cLse, h1, h2, vcLoose, heapsOf, h0, ho]
        omega
    · rw [restB_nil] at hG
      simp [hG]
theorem known_r34_five : Known Try.prog 65 (C2 (fun a b : Stt => shortS a ∧ shortS b) fun a b => .bool (leasesQ ⟨a, b⟩)) := known_C2 (fun a b h => det_r34_five a b h.1 h.2) fun a b => flat_bool _
end Go.Proofs.Ytfjidignjjaihaa.Sx
