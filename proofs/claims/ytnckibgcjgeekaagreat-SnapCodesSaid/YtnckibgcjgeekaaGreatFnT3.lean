/- States that are alike, by the document's answer. No conditions: a kit of our own. -/
import Derived.Test.YtnckibgcjgeekaaGreatFnC5
import Derived.Test.YtnckibgcjgeekaaGreatIrT
namespace Go.Proofs.YtnckibgcjgeekaaGreat.Sx
open Go Go.RowKit
set_option linter.unusedVariables false
set_option linter.unusedSimpArgs false

theorem det_r19_Same (x y : Lck) (h : okK x) : Det Tryz.prog 80 [en x, en y] [] (.bool (decide (x = y))) [] := by
  refine det_finF mixed0 (knows_cons known_Ints knows_nil) ok_r19_Same 1 (by simp) ?_
  have h1 : x.Wait.length ≤ 9223372036854775807 := Nat.le_trans h (by decide)
  simp [ic_r19_Same, rs_r19_Same, cInts, h1]
  rw [Bool.eq_iff_iff]
  simp [ext_Lck, and_assoc]
def c_r19_Same : Ctr := C2 (fun x y : Lck => okK x) fun x y => .bool (decide (x = y))
theorem known_r19_Same : Known Tryz.prog 80 c_r19_Same := known_C2 (fun x y h => det_r19_Same x y h) fun x y => flat_bool _
theorem det_r26_All (l k : List Lse) (hl : l.length ≤ 9223372036854775807) (hx : okLs l) : Det Tryz.prog 48 [en l, en k] [] (.bool (decide (l = k))) [] := by
  refine det_finF mixed0 (knows_cons known_r26_Same knows_nil) ok_r26_All 1 (by simp) ?_
  simp [ic_r26_All, rs_r26_All]
  refine ⟨fun h e => h (by rw [e]), fun hlen => ?_⟩
  refine LoopC.scanB Lse.zero l (fun i (_ : Unit) => ⟨[(0, .view (l.map Cel.c)), (1, .view (k.map Cel.c)), (5, .int .i64 i)], []⟩) (fun i _ r => l = k ↔ r = k.drop i) () (by simp) (by simp) (by simp) (fun i a r b hi ha hd hG => ?_) fun b hG => ?_
  · have hi' : i < k.length := by omega
    have hy := drop_nth Lse.zero hi'
    have hxa := hx a (mem_drop hd)
    rw [hy] at hG
    simp [hi, hi', ha, cSameLse, hxa, vcLoose]
    refine ⟨fun e => ?_, fun e => ⟨by omega, ?_⟩⟩
    · rw [hG]; simp; intro e'; exact absurd e' e
    · rw [hG, e]; simp
  · simp
    rw [hG, List.drop_of_length_le (by omega)]
def c_r26_All : Ctr := C2 (fun l k : List Lse => l.length ≤ 9223372036854775807 ∧ okLs l) fun l k => .bool (decide (l = k))
theorem known_r26_All : Known Tryz.prog 48 c_r26_All := known_C2 (fun l k h => det_r26_All l k h.1 h.2) fun l k => flat_bool _
theorem det_r19_All (l k : List Lck) (hl : l.length ≤ 9223372036854775807) (hx : okKs l) : Det Tryz.prog 49 [en l, en k] [] (.bool (decide (l = k))) [] := by
  refine det_finF mixed0 (knows_cons known_r19_Same knows_nil) ok_r19_All 1 (by simp) ?_
  simp [ic_r19_All, rs_r19_All]
  refine ⟨fun h e => h (by rw [e]), fun hlen => ?_⟩
  refine LoopC.scanB Lck.zero l (fun i (_ : Unit) => ⟨[(0, .view (l.map Cel.c)), (1, .view (k.map Cel.c)), (5, .int .i64 i)], []⟩) (fun i _ r => l = k ↔ r = k.drop i) () (by simp) (by simp) (by simp) (fun i a r b hi ha hd hG => ?_) fun b hG => ?_
  · have hi' : i < k.length := by omega
    have hy := drop_nth Lck.zero hi'
    have hxa := hx a (mem_drop hd)
    rw [hy] at hG
    simp [hi, hi', ha, c_r19_Same, hxa, vcLoose]
    refine ⟨fun e => ?_, fun e => ⟨by omega, ?_⟩⟩
    · rw [hG]; simp; intro e'; exact absurd e' e
    · rw [hG, e]; simp
  · simp
    rw [hG, List.drop_of_length_le (by omega)]
def c_r19_All : Ctr := C2 (fun l k : List Lck => l.length ≤ 9223372036854775807 ∧ okKs l) fun l k => .bool (decide (l = k))
theorem known_r19_All : Known Tryz.prog 49 c_r19_All := known_C2 (fun l k h => det_r19_All l k h.1 h.2) fun l k => flat_bool _
theorem det_r25_Same (l k : List Hand) (hl : l.length ≤ 9223372036854775807) : Det Tryz.prog 47 [en l, en k] [] (.bool (decide (l = k))) [] := by
  refine det_finF mixed0 knows_nil ok_r25_Same 1 (by simp) ?_
  simp [ic_r25_Same, rs_r25_Same]
  refine ⟨fun h e => h (by rw [e]), fun hlen => ?_⟩
  refine LoopC.scanB Hand.zero l (fun i (_ : Unit) => ⟨[(0, .view (l.map Cel.c)), (1, .view (k.map Cel.c)), (5, .int .i64 i)], []⟩) (fun i _ r => l = k ↔ r = k.drop i) () (by simp) (by simp) (by simp) (fun i a r b hi ha hd hG => ?_) fun b hG => ?_
  · have hi' : i < k.length := by omega
    have hy := drop_nth Hand.zero hi'
    rw [hy] at hG
    by_cases e : a = nth k i Hand.zero
    · simp [hi, hi', ha, vcLoose, e]
      refine ⟨by omega, ?_⟩
      rw [hG, e]; simp
    · have e2 : ¬ (a.ID = (nth k i Hand.zero).ID ∧ a.Bits = (nth k i Hand.zero).Bits ∧ a.On = (nth k i Hand.zero).On) := fun h => e (by simp [ext_Hand, h])
      have e3 : ¬ l = k := fun h => by rw [hG] at h; simp at h; exact e h.1
      simp [hi, hi', ha, vcLoose, e3]
      grind
  · simp
    rw [hG, List.drop_of_length_le (by omega)]
theorem known_r25_Same : Known Tryz.prog 47 cEqHands := known_C2 (fun l k h => det_r25_Same l k h) fun l k => flat_bool _
theorem det_r30_Same (x y : Stt) (h : okS x) : Det Tryz.prog 13 [en x, en y] [] (.bool (decide (x = y))) [] := by
  refine det_finF mixed0 (knows_cons known_r30_SameTask (knows_cons known_r25_Same (knows_cons known_r26_All (knows_cons known_r19_All knows_nil)))) ok_r30_Same 1 (by simp) ?_
  have ht := h.t
  have u1 := up h.c
  have u2 := up h.u
  have u3 := up h.l
  have u4 := up h.k
  simp [ic_r30_Same, rs_r30_Same]
  refine ⟨fun h1 e => ?_, fun h1 h2 h3 h4 => ?_⟩
  · subst e; simp at h1
  have hE : x = y ↔ x.Tasks = y.Tasks ∧ x.Crew = y.Crew ∧ x.Units = y.Units ∧ x.Leases = y.Leases ∧ x.Locks = y.Locks := by
    rw [ext_Stt]; simp [h1, h2, h3]
  refine LoopC.scanB Tsk.zero x.Tasks (fun i (_ : Unit) => ⟨[(2, .ptr 0 0 0), (3, .ptr 1 0 0), (5, .int .i64 i)], [.rows 8 [Cel.c x], .rows 8 [Cel.c y]]⟩) (fun i _ r => x.Tasks = y.Tasks ↔ r = y.Tasks.drop i) () (by simp) (by simp) (by simp) (fun i a r b hi ha hd hG => ?_) fun b hG => ?_
  · have hi' : i < y.Tasks.length := by omega
    have hy := drop_nth Tsk.zero hi'
    have hxa := h.ts a (mem_drop hd)
    rw [hy] at hG
    simp [hi, hi', ha, cSameTask, hxa, vcLoose]
    refine ⟨fun e => ?_, fun e => ⟨by omega, ?_⟩⟩
    · rw [hE, hG]; simp; intro e'; exact absurd e' e
    · rw [hG, e]; simp
  · have hT : x.Tasks = y.Tasks := by rw [hG, List.drop_of_length_le (by omega)]
    simp [cEqHands, c_r26_All, c_r19_All, u1, u2, u3, u4, h.ls, h.ks]
    rw [Bool.eq_iff_iff]
    simp [hE, hT, and_assoc]
theorem known_r30_Same : Known Tryz.prog 13 cStateSame := known_C2 (fun x y h => det_r30_Same x y h) fun x y => flat_bool _
end Go.Proofs.YtnckibgcjgeekaaGreat.Sx
/- The shape of a state, by the document's answer. No conditions: a kit of our own. -/
namespace Go.Proofs.YtnckibgcjgeekaaGreat.Sx
open Go Go.RowKit
set_option linter.unusedVariables false
set_option linter.unusedSimpArgs false

theorem det_r30_in (n a b : Int) : Det Tryz.prog 85 [en n, en a, en b] [] (.bool (inR a b n)) [] := by
  refine det_finF mixed0 knows_nil ok_r30_in 1 (by simp) ?_
  simp [ic_r30_in, rs_r30_in, inR]
theorem known_r30_in : Known Tryz.prog 85 cr22_within := known_C3 (fun n a b _ => det_r30_in n a b) fun n a b => flat_bool _
theorem det_r30_all (l : List Int) (a b : Int) (hl : l.length ≤ 9223372036854775807) : Det Tryz.prog 90 [en l, en a, en b] [] (.bool (l.all (inR a b))) [] := by
  refine det_finF mixed0 (knows_cons known_r30_in knows_nil) ok_r30_all 1 (by simp) ?_
  simp [ic_r30_all, rs_r30_all]
  refine LoopC.scan (0 : Int) l (fun i : Nat => ⟨[(0, .view (l.map Cel.c)), (1, .int .i64 a), (2, .int .i64 b), (7, .int .i64 i)], []⟩) (fun r => l.all (inR a b) = r.all (inR a b)) (by simp) (by simp) rfl (fun i x r hi hx hG => ?_) fun hG => ?_
  · rw [hG]
    cases h : inR a b x
    · simp [hi, hx, cr22_within, h]
    · simp [hi, hx, cr22_within, h]; omega
  · rw [hG]; simp
def cr30_all : Ctr := C3 (fun (l : List Int) (a b : Int) => l.length ≤ 9223372036854775807) fun l a b => .bool (l.all (inR a b))
theorem known_r30_all : Known Tryz.prog 90 cr30_all := known_C3 (fun l a b h => det_r30_all l a b h) fun l a b => flat_bool _
theorem nth_map' {α β : Type} (f : α → β) {l : List α} {i : Nat} (d : α) (d' : β) (h : i < l.length) : nth (l.map f) i d' = f (nth l i d) := by
  rw [nth_get (by simpa using h), nth_get h]; simp
theorem det_r30_hands (l : List Hand) (hl : l.length ≤ 9223372036854775807) : Det Tryz.prog 83 [en l] [] (.bool (rises (l.map fun x => x.ID))) [] := by
  refine det_finF mixed0 knows_nil ok_r30_hands 1 (by simp) ?_
  simp [ic_r30_hands, rs_r30_hands]
  refine LoopC.gen (fun j : Nat => ⟨[(0, .view (l.map Cel.c)), (3, .int .i64 (j + 1 : Nat))], []⟩) (fun j => j ≤ l.length ∧ rises (l.map fun x => x.ID) = rises ((l.map fun x => x.ID).drop j)) (fun j => l.length - j) 0 (by simp) (by simp) (by simp) fun j ⟨hj, hG⟩ => ?_
  by_cases h : j + 1 < l.length
  · have hd := rises_drop (L := l.map fun x => x.ID) (j := j) (by simpa using h)
    rw [nth_map' _ Hand.zero _ (by omega : j < l.length), nth_map' _ Hand.zero _ h] at hd
    rw [hd] at hG
    have h1 : (j : Int) + 1 < l.length := by omega
    simp [h, h1, hG, vcLoose]
    and_intros <;> try omega
    · exact fun h2 => ⟨by omega, j + 1, by simp, ⟨by omega, by simp [h2]⟩, by omega⟩
  · have h1 : ¬ (j : Int) + 1 < l.length := by omega
    simp [h, h1]
    rw [hG, rises_drop_end (by simp; omega)]
def cr30_hands : Ctr := C1 (fun l : List Hand => l.length ≤ 9223372036854775807) fun l => .bool (rises (l.map fun x => x.ID))
theorem known_r30_hands : Known Tryz.prog 83 cr30_hands := known_C1 (fun l h => det_r30_hands l h) fun l => flat_bool _
theorem det_r30_big (r : Rul) (s : Stt) (h : okS s) : Det Tryz.prog 51 [en r, en s] [] (.bool (!fitS r s)) [] := by
  refine det_finF mixed0 knows_nil ok_r30_big 1 (by simp) ?_
  have ht := h.t; have hl := h.l; have hk := h.k
  simp [ic_r30_big, rs_r30_big]
  refine ⟨fun hc => ?_, fun h1 h2 h3 h4 h5 => ?_⟩
  · cases hf : fitS r s
    · rfl
    · exfalso
      simp only [fitS, Bool.and_eq_true, decide_eq_true_eq] at hf
      omega
  refine LoopC.scan Tsk.zero s.Tasks (fun i : Nat => ⟨[(2, .ptr 0 0 0), (3, .ptr 1 0 0), (5, .int .i64 i)], [.rows 8 [Cel.c r], .rows 8 [Cel.c s]]⟩) (fun l => fitS r s = (l.all p_fits_1 && s.Leases.all (p_fits_2 r) && s.Locks.all p_fits_3)) (by simp) (by simp) (by simp [fitS, h1, h2, h3, h4, h5]) (fun i a l hi ha hG => ?_) fun hG => ?_
  · rw [hG]
    by_cases hp : a.Burnt.length ≤ 16
    · simp [hi, ha, hp, p_fits_1]; omega
    · simp [hi, ha, hp, p_fits_1]
  simp only [List.all_nil, Bool.true_and] at hG
  simp
  refine LoopC.scan Lse.zero s.Leases (fun i : Nat => ⟨[(2, .ptr 0 0 0), (3, .ptr 1 0 0), (6, .int .i64 i)], [.rows 8 [Cel.c r], .rows 8 [Cel.c s]]⟩) (fun l => fitS r s = (l.all (p_fits_2 r) && s.Locks.all p_fits_3)) (by simp) (by simp) hG (fun i a l hi ha hG => ?_) fun hG => ?_
  · rw [hG]
    by_cases hp : a.Want.length ≤ r.Aisles.length
    · simp [hi, ha, hp, p_fits_2, vcLoose]; omega
    · simp [hi, ha, hp, p_fits_2, vcLoose]
  simp only [List.all_nil, Bool.true_and] at hG
  simp
  refine LoopC.scan Lck.zero s.Locks (fun i : Nat => ⟨[(3, .ptr 1 0 0), (7, .int .i64 i)], [.rows 8 [Cel.c r], .rows 8 [Cel.c s]]⟩) (fun l => fitS r s = l.all p_fits_3) (by simp) (by simp) hG (fun i a l hi ha hG => ?_) fun hG => ?_
  · rw [hG]
    by_cases hp : a.Wait.length ≤ 64
    · simp [hi, ha, hp, p_fits_3]; omega
    · simp [hi, ha, hp, p_fits_3]
  · rw [hG]; simp
def cr30_big : Ctr := C2 (fun (r : Rul) (s : Stt) => okS s) fun r s => .bool (!fitS r s)
theorem known_r30_big : Known Tryz.prog 51 cr30_big := known_C2 (fun r s h => det_r30_big r s h) fun r s => flat_bool _
theorem nzero_cons (x : Int) (l : List Int) : nzero (x :: l) = nzero l + if x = 0 then 1 else 0 := by simp [nzero, List.countP_cons]
theorem det_r30_released (s : Stt) (h : okS s) : Det Tryz.prog 86 [en s] [] (.int .i64 (s.Tasks.length - nzero (s.Tasks.map fun x => x.Seq) : Int)) [] := by
  refine det_finF mixed0 knows_nil ok_r30_released 1 (by simp) ?_
  have ht := h.t
  simp [-List.map_map, ic_r30_released, rs_r30_released]
  refine LoopC.scanB Tsk.zero s.Tasks (fun i (b : Nat) => ⟨[(1, .ptr 0 0 0), (3, .int .i64 b), (4, .int .i64 i)], [.rows 8 [Cel.c s]]⟩) (fun i b r => (s.Tasks.length - nzero (s.Tasks.map fun x => x.Seq) : Int) = b + (r.length - nzero (r.map fun x => x.Seq) : Int) ∧ b ≤ i) 0 (by simp) (by simp) (by simp) (fun i a r b hi ha hd ⟨hG, hb⟩ => ?_) fun b ⟨hG, hb⟩ => ?_
  · rw [List.map_cons, nzero_cons] at hG
    simp only [List.length_cons] at hG
    by_cases he : a.Seq = 0
    · rw [if_pos he] at hG
      simp [-List.map_map, hi, ha, he]
      and_intros <;> first | omega | skip
      try exact ⟨b, by simp, by omega, by omega⟩
    · rw [if_neg he] at hG
      simp [-List.map_map, hi, ha, he]
      and_intros <;> first | omega | skip
      exact ⟨b + 1, by simp, by omega, by omega⟩
  · simp [nzero] at hG
    simp [nzero, hG]
def cr30_released : Ctr := C1 (fun s : Stt => okS s) fun s => .int .i64 (s.Tasks.length - nzero (s.Tasks.map fun x => x.Seq) : Int)
theorem known_r30_released : Known Tryz.prog 86 cr30_released := known_C1 (fun s h => det_r30_released s h) fun s => flat_int _ _
theorem det_r30_task (r : Rul) (s : Stt) (x : Tsk) (h : okT x) : Det Tryz.prog 87 [en r, en s, en x] [] (.bool (p_within_3 s r Qid x)) [] := by
  refine det_finF mixed0 (knows_cons known_R22Check (knows_cons known_r30_in (knows_cons known_r30_all knows_nil))) ok_r30_task 1 (by simp) ?_
  have h1 := up h.1
  have h2 := up h.2
  simp [ic_r30_task, rs_r30_task, cSpecErr, cr22_within, cr30_all, h1, h2, p_within_3, Qid]
def cr30_task : Ctr := C3 (fun (r : Rul) (s : Stt) (x : Tsk) => okT x) fun r s x => .bool (p_within_3 s r Qid x)
theorem known_r30_task : Known Tryz.prog 87 cr30_task := known_C3 (fun r s x h => det_r30_task r s x h) fun r s x => flat_bool _
theorem det_r30_lease (s : Stt) (x : Lse) (h : okL x) : Det Tryz.prog 89 [en s, en x] [] (.bool (p_within_4 s Qid x)) [] := by
  refine det_finF mixed0 (knows_cons known_r30_in knows_nil) ok_r30_lease 1 (by simp) ?_
  have h1 := up h
  simp [ic_r30_lease, rs_r30_lease, cr22_within, h1, p_within_4, Qid, Bool.and_assoc]
def cr30_lease : Ctr := C2 (fun (s : Stt) (x : Lse) => okL x) fun s x => .bool (p_within_4 s Qid x)
theorem known_r30_lease : Known Tryz.prog 89 cr30_lease := known_C2 (fun s x h => det_r30_lease s x h) fun s x => flat_bool _
end Go.Proofs.YtnckibgcjgeekaaGreat.Sx
/- The shape of a state, by the document's answer: order and bounds; the law. No conditions: a kit of our own. -/
namespace Go.Proofs.YtnckibgcjgeekaaGreat.Sx
open Go Go.RowKit
set_option linter.unusedVariables false
set_option linter.unusedSimpArgs false

theorem rises_pred {L : List Int} {i : Nat} (h : i < L.length) : rises (L.drop (i - 1)) = ((decide (i = 0) || decide (nth L (i - 1) 0 < nth L i 0)) && rises (L.drop (i + 1 - 1))) := by
  rcases Nat.eq_zero_or_pos i with h0 | h0
  · subst h0; simp
  · have e : i - 1 + 1 = i := by omega
    have := rises_drop (L := L) (j := i - 1) (by omega)
    rw [e] at this
    rw [this]
    have hn : ¬ i = 0 := by omega
    simp [hn]
theorem rises_last {L : List Int} : rises (L.drop (L.length - 1)) = true := rises_drop_end (by omega)
theorem det_r30_form (r : Rul) (s : Stt) (h : okS s) (hr : r.Aisles.length ≤ 1073741824) (he : s.Locks.length = r.Aisles.length) : Det Tryz.prog 52 [en r, en s] [] (.bool (ordS r s)) [] := by
  refine det_finF mixed0 (knows_cons known_r30_hands (knows_cons known_R17Right knows_nil)) ok_r30_form 1 (by simp) ?_
  have ht := h.t; have hl := h.l; have hk := h.k
  have u1 := up h.c; have u2 := up h.u
  simp [-List.map_map, ic_r30_form, rs_r30_form, cr30_hands, u1, u2]
  obtain ⟨ids, hids⟩ : ∃ ids, s.Tasks.map (fun x => x.Sp.ID) = ids := ⟨_, rfl⟩
  obtain ⟨tks, htks⟩ : ∃ tks, s.Leases.map (fun x => x.Token) = tks := ⟨_, rfl⟩
  have hil : ids.length = s.Tasks.length := by rw [← hids]; simp
  have htl : tks.length = s.Leases.length := by rw [← htks]; simp
  have hO : ordS r s = (rises ids && rises (s.Crew.map fun x => x.ID) && rises (s.Units.map fun x => x.ID) && rises tks && s.Tasks.all p_orders_3 && s.Leases.all p_orders_4 && decide ((s.Locks.map fun x => x.ID) = r.Aisles.map fun x => x.ID)) := by rw [ordS, hids, htks]
  refine ⟨fun hc => ?_, fun h1 h2 => ?_⟩
  · rw [hO]
    grind
  refine LoopC.scanB Tsk.zero s.Tasks (fun i (_ : Unit) => ⟨[(2, .ptr 0 0 0), (3, .ptr 1 0 0), (5, .int .i64 i)], [.rows 8 [Cel.c r], .rows 8 [Cel.c s]]⟩)
    (fun i _ l => ordS r s = (rises (ids.drop (i - 1)) && l.all p_orders_3 && (rises tks && s.Leases.all p_orders_4 && decide ((s.Locks.map fun x => x.ID) = r.Aisles.map fun x => x.ID)))) () (by simp) (by simp) ?_ (fun i a l b hi ha hd hG => ?_) fun b hG => ?_
  · rw [hO, h1, h2]; simp [Bool.and_assoc, Bool.and_comm, Bool.and_left_comm]
  · have hb : a.Burnt.length ≤ 9223372036854775807 := up (h.ts a (mem_drop hd)).2
    have hn := nth_map' (fun x : Tsk => x.Sp.ID) Tsk.zero (0 : Int) hi
    rw [hids, ha] at hn
    rw [rises_pred (by omega), List.all_cons, hn] at hG
    have hn1 : nth ids (i - 1) 0 = (nth s.Tasks (i - 1) Tsk.zero).Sp.ID := by rw [← hids, nth_map' _ Tsk.zero _ (by omega)]
    rw [hn1] at hG
    simp [-List.map_map, hi, ha, cR17Right, hb, vcLoose, heapsOf]
    have hor : (0 < i → (nth s.Tasks (i - 1) Tsk.zero).Sp.ID < a.Sp.ID) → i = 0 ∨ (nth s.Tasks (i - 1) Tsk.zero).Sp.ID < a.Sp.ID := fun h => by
      rcases Nat.eq_zero_or_pos i with h0 | h0
      · exact .inl h0
      · exact .inr (h h0)
    refine ⟨fun _ => ⟨by omega, by omega⟩, fun _ => ⟨by omega, by omega⟩, hor, fun hc => ?_, fun hlt hrb => ⟨⟨by omega, by omega⟩, ?_⟩⟩
    · rw [hG]
      rcases hc with ⟨h0, hle⟩ | hrb
      · have g1 : ¬ i = 0 := by omega
        have g2 : ¬ (nth s.Tasks (i - 1) Tsk.zero).Sp.ID < a.Sp.ID := by omega
        simp [g1, g2]
      · simp [p_orders_3, hrb]
    · have g1 : (decide (i = 0) || decide ((nth s.Tasks (i - 1) Tsk.zero).Sp.ID < a.Sp.ID)) = true := by simpa using hor hlt
      rw [hG, g1]
      simp [p_orders_3, hrb]
  rw [← hil, rises_last] at hG
  simp only [List.all_nil, Bool.true_and] at hG
  simp [-List.map_map]
  refine LoopC.scanB Lse.zero s.Leases (fun i (_ : Unit) => ⟨[(2, .ptr 0 0 0), (3, .ptr 1 0 0), (6, .int .i64 i)], [.rows 8 [Cel.c r], .rows 8 [Cel.c s]]⟩)
    (fun i _ l => ordS r s = (rises (tks.drop (i - 1)) && l.all p_orders_4 && decide ((s.Locks.map fun x => x.ID) = r.Aisles.map fun x => x.ID))) () (by simp) (by simp) hG (fun i a l b hi ha hd hG => ?_) fun b hG => ?_
  · have hb : a.Want.length ≤ 9223372036854775807 := up (h.ls a (mem_drop hd))
    have hn := nth_map' (fun x : Lse => x.Token) Lse.zero (0 : Int) hi
    rw [htks, ha] at hn
    rw [rises_pred (by omega), List.all_cons, hn] at hG
    have hn1 : nth tks (i - 1) 0 = (nth s.Leases (i - 1) Lse.zero).Token := by rw [← htks, nth_map' _ Lse.zero _ (by omega)]
    rw [hn1] at hG
    simp [-List.map_map, hi, ha, cR17Right, hb, vcLoose, heapsOf]
    have hor : (0 < i → (nth s.Leases (i - 1) Lse.zero).Token < a.Token) → i = 0 ∨ (nth s.Leases (i - 1) Lse.zero).Token < a.Token := fun h => by
      rcases Nat.eq_zero_or_pos i with h0 | h0
      · exact .inl h0
      · exact .inr (h h0)
    refine ⟨fun _ => ⟨by omega, by omega⟩, fun _ => ⟨by omega, by omega⟩, hor, fun hc => ?_, fun hlt hrb => ⟨⟨by omega, by omega⟩, ?_⟩⟩
    · rw [hG]
      rcases hc with ⟨h0, hle⟩ | hrb
      · have g1 : ¬ i = 0 := by omega
        have g2 : ¬ (nth s.Leases (i - 1) Lse.zero).Token < a.Token := by omega
        simp [g1, g2]
      · simp [p_orders_4, hrb]
    · have g1 : (decide (i = 0) || decide ((nth s.Leases (i - 1) Lse.zero).Token < a.Token)) = true := by simpa using hor hlt
      rw [hG, g1]
      simp [p_orders_4, hrb]
  rw [← htl, rises_last] at hG
  simp only [List.all_nil, Bool.true_and] at hG
  simp [-List.map_map]
  refine LoopC.scanB Lck.zero s.Locks (fun i (_ : Unit) => ⟨[(2, .ptr 0 0 0), (3, .ptr 1 0 0), (7, .int .i64 i)], [.rows 8 [Cel.c r], .rows 8 [Cel.c s]]⟩)
    (fun i _ l => ordS r s = decide ((l.map fun x => x.ID) = (r.Aisles.drop i).map fun x => x.ID)) () (by simp) (by simp) (by simpa using hG) (fun i a l b hi ha hd hG => ?_) fun b hG => ?_
  · have hi' : i < r.Aisles.length := by omega
    have hy := drop_nth Ais.zero hi'
    rw [hy] at hG
    simp only [List.map_cons, List.cons.injEq] at hG
    by_cases e : a.ID = (nth r.Aisles i Ais.zero).ID
    · simp [-List.map_map, hi, hi', ha, e, vcLoose, heapsOf]
      refine ⟨by omega, ?_⟩
      rw [hG]; simp [e]
    · simp [-List.map_map, hi, hi', ha, e, vcLoose, heapsOf]
      rw [hG]; simp [e]
  · rw [hG, List.drop_of_length_le (by omega)]
    simp
def cr30_form : Ctr := C2 (fun (r : Rul) (s : Stt) => okS s ∧ r.Aisles.length ≤ 1073741824 ∧ s.Locks.length = r.Aisles.length) fun r s => .bool (ordS r s)
theorem known_r30_form : Known Tryz.prog 52 cr30_form := known_C2 (fun r s h => det_r30_form r s h.1 h.2.1 h.2.2) fun r s => flat_bool _
theorem det_r30_bounds (r : Rul) (s : Stt) (h : okS s) (hr : 1 ≤ r.Tasks ∧ r.Tasks ≤ 64) : Det Tryz.prog 53 [en r, en s] [] (.bool (witS r s)) [] := by
  refine det_finF mixed0 (knows_cons known_r30_in (knows_cons known_r30_released (knows_cons known_r30_task (knows_cons known_ID (knows_cons known_r30_lease (knows_cons known_r30_all knows_nil)))))) ok_r30_bounds 1 (by simp) ?_
  have ht := h.t; have hl := h.l; have hk := h.k; have hc := h.c; have hu := h.u
  have hz := nzero_map_le s
  simp [-List.map_map, -List.all_map, ic_r30_bounds, rs_r30_bounds, cr22_within, cr30_released, h, vcLoose, heapsOf]
  have e1 : (2147483647 - r.Tasks + (s.Tasks.length - nzero (s.Tasks.map fun x => x.Seq) : Int)) = 2147483647 - laterS r s := by simp only [laterS]; omega
  have hid : inR 1 999 = idOk := by funext n; simp [inR, idOk]
  have hW : witS r s = (inR r.Start 2147483647 s.Now && inR 0 (2147483647 - laterS r s) s.Seq && inR 0 2147483647 s.Token && (s.Tasks.all (p_within_3 s r Qid) && ((s.Crew.all fun x => idOk x.ID) && ((s.Units.all fun x => idOk x.ID) && (s.Leases.all (p_within_4 s Qid) && s.Locks.all (p_within_5 Qtick Qtoken)))))) := by
    rw [witS, hid, List.all_map, List.all_map]; simp only [Function.comp_def, Bool.and_assoc]
  refine ⟨fun _ => by omega, fun _ => by omega, fun hc => ?_, fun k1 k2 k3 => ?_⟩
  · rw [e1] at hc
    rw [hW]
    rcases hc with (hc | hc) | hc <;> simp [hc]
  rw [e1] at k2
  simp only [k1, k2, k3, Bool.true_and] at hW
  refine LoopC.scanB Tsk.zero s.Tasks (fun i (_ : Unit) => ⟨[(2, .ptr 0 0 0), (3, .ptr 1 0 0), (5, .int .i64 i)], [.rows 8 [Cel.c r], .rows 8 [Cel.c s]]⟩) (fun _ _ l => witS r s = (l.all (p_within_3 s r Qid) && ((s.Crew.all fun x => idOk x.ID) && ((s.Units.all fun x => idOk x.ID) && (s.Leases.all (p_within_4 s Qid) && s.Locks.all (p_within_5 Qtick Qtoken)))))) () (by simp) (by simp) hW (fun i a l b hi ha hd hG => ?_) fun b hG => ?_
  · have h1 := h.ts a (mem_drop hd)
    rw [hG]
    cases hp : p_within_3 s r Qid a
    · simp [hi, ha, cr30_task, h1, hp, vcLoose, heapsOf]
    · simp [hi, ha, cr30_task, h1, hp, vcLoose, heapsOf]
      omega
  have hW : witS r s = ((s.Crew.all fun x => idOk x.ID) && ((s.Units.all fun x => idOk x.ID) && (s.Leases.all (p_within_4 s Qid) && s.Locks.all (p_within_5 Qtick Qtoken)))) := hG
  clear hG
  simp [-List.map_map, -List.all_map]
  refine LoopC.scanB Hand.zero s.Crew (fun i (_ : Unit) => ⟨[(3, .ptr 1 0 0), (6, .int .i64 i)], [.rows 8 [Cel.c r], .rows 8 [Cel.c s]]⟩) (fun _ _ l => witS r s = ((l.all fun x => idOk x.ID) && ((s.Units.all fun x => idOk x.ID) && (s.Leases.all (p_within_4 s Qid) && s.Locks.all (p_within_5 Qtick Qtoken))))) () (by simp) (by simp) hW (fun i a l b hi ha hd hG => ?_) fun b hG => ?_
  · rw [hG]
    cases hp : idOk a.ID
    · simp [hi, ha, cID, hp, vcLoose, heapsOf]
    · simp [hi, ha, cID, hp, vcLoose, heapsOf]
      omega
  have hW : witS r s = ((s.Units.all fun x => idOk x.ID) && (s.Leases.all (p_within_4 s Qid) && s.Locks.all (p_within_5 Qtick Qtoken))) := hG
  clear hG
  simp [-List.map_map, -List.all_map]
  refine LoopC.scanB Hand.zero s.Units (fun i (_ : Unit) => ⟨[(3, .ptr 1 0 0), (7, .int .i64 i)], [.rows 8 [Cel.c r], .rows 8 [Cel.c s]]⟩) (fun _ _ l => witS r s = ((l.all fun x => idOk x.ID) && (s.Leases.all (p_within_4 s Qid) && s.Locks.all (p_within_5 Qtick Qtoken)))) () (by simp) (by simp) hW (fun i a l b hi ha hd hG => ?_) fun b hG => ?_
  · rw [hG]
    cases hp : idOk a.ID
    · simp [hi, ha, cID, hp, vcLoose, heapsOf]
    · simp [hi, ha, cID, hp, vcLoose, heapsOf]
      omega
  have hW : witS r s = (s.Leases.all (p_within_4 s Qid) && s.Locks.all (p_within_5 Qtick Qtoken)) := hG
  clear hG
  simp [-List.map_map, -List.all_map]
  refine LoopC.scanB Lse.zero s.Leases (fun i (_ : Unit) => ⟨[(3, .ptr 1 0 0), (8, .int .i64 i)], [.rows 8 [Cel.c r], .rows 8 [Cel.c s]]⟩) (fun _ _ l => witS r s = (l.all (p_within_4 s Qid) && s.Locks.all (p_within_5 Qtick Qtoken))) () (by simp) (by simp) hW (fun i a l b hi ha hd hG => ?_) fun b hG => ?_
  · have h1 := h.ls a (mem_drop hd)
    rw [hG]
    cases hp : p_within_4 s Qid a
    · simp [hi, ha, cr30_lease, h1, hp, vcLoose, heapsOf]
    · simp [hi, ha, cr30_lease, h1, hp, vcLoose, heapsOf]
      omega
  have hW : witS r s = s.Locks.all (p_within_5 Qtick Qtoken) := hG
  clear hG
  simp [-List.map_map, -List.all_map]
  refine LoopC.scanB Lck.zero s.Locks (fun i (_ : Unit) => ⟨[(3, .ptr 1 0 0), (9, .int .i64 i)], [.rows 8 [Cel.c r], .rows 8 [Cel.c s]]⟩) (fun _ _ l => witS r s = l.all (p_within_5 Qtick Qtoken)) () (by simp) (by simp) hW (fun i a l b hi ha hd hG => ?_) fun b hG => ?_
  · have h1 : a.Wait.length ≤ 9223372036854775807 := up (h.ks a (mem_drop hd))
    rw [hG]
    have hp : p_within_5 Qtick Qtoken a = (inR 0 2147483647 a.Holder && a.Wait.all (inR 1 2147483647)) := rfl
    rw [List.all_cons, hp]
    cases g1 : inR 0 2147483647 a.Holder
    · simp [hi, ha, g1, h1, cr22_within, cr30_all, vcLoose, heapsOf]
    · cases g2 : a.Wait.all (inR 1 2147483647)
      · simp [hi, ha, g1, g2, h1, cr22_within, cr30_all, vcLoose, heapsOf]
      · simp [hi, ha, g1, g2, h1, cr22_within, cr30_all, vcLoose, heapsOf]
        omega
  · rw [hG]
    simp
def cr30_bounds : Ctr := C2 (fun (r : Rul) (s : Stt) => okS s ∧ 1 ≤ r.Tasks ∧ r.Tasks ≤ 64) fun r s => .bool (witS r s)
theorem known_r30_bounds : Known Tryz.prog 53 cr30_bounds := known_C2 (fun r s h => det_r30_bounds r s h.1 h.2) fun r s => flat_bool _
theorem fit_locks {r : Rul} {s : Stt} (h : fitS r s = true) : s.Locks.length = r.Aisles.length := by
  simp only [fitS, Bool.and_eq_true, decide_eq_true_eq] at h
  exact h.1.1.1.2
theorem det_r30_Shape (r : Rul) (s : Stt) (h : okS s) (hr : r.Aisles.length ≤ 1073741824) : Det Tryz.prog 14 [en r, en s] [] (.int .i64 (shpErr r s)) [] := by
  refine det_finF mixed0 (knows_cons known_r22_Rules (knows_cons known_r30_big (knows_cons known_r30_form (knows_cons known_r30_bounds knows_nil)))) ok_r30_Shape 1 (by simp) ?_
  simp [ic_r30_Shape, rs_r30_Shape, cRules, cr30_big, cr30_form, cr30_bounds, h, hr, up hr]
  have e : shpErr r s = if rulErr r ≠ 0 then rulErr r else if fitS r s = false then 15 else if ordS r s = false then 3 else if witS r s = false then 2 else 0 := rfl
  refine ⟨fun h => by simp [e, h], fun h => ⟨fun h1 => by simp [e, h, h1], fun h1 => ⟨fit_locks h1, fun h2 => by simp [e, h, h1, h2], fun h2 => ⟨rulErr_zero h, fun h3 => by simp [e, h, h1, h2, h3], fun h3 => by simp [e, h, h1, h2, h3]⟩⟩⟩⟩
theorem known_r30_Shape : Known Tryz.prog 14 cShape := known_C2 (fun x y h => det_r30_Shape x y h.1 h.2) fun x y => flat_int _ _
end Go.Proofs.YtnckibgcjgeekaaGreat.Sx
