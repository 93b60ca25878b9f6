/- The shape of a state, by the document's answer: order and bounds; the law. No conditions: a kit of our own. -/
import Derived.Test.YtoapfffakfmioaaGreatFnT2
namespace Go.Proofs.YtoapfffakfmioaaGreat.Sx
open Go Go.RowKit
set_option linter.unusedVariables false
set_option linter.unusedSimpArgs false

theorem rises_pred {L : List Int} {i : Nat} (h : i < L.length) : rises (L.drop (i - 1)) = ((decide (i = 0) || decide (nth L (i - 1) 0 < nth L i 0)) && rises (L.drop (i + 1 - 1))) := by
  rcases Nat.eq_zero_or_pos i with h0 | h0
  · subst h0; simp
  · have e : i - 1 + 1 = i := by omega
    have := rises_drop (L := L) (j := i - 1) (by omega)
    rw [e] at this
    rw [this]
    have hn : ¬ i = 0 := by omega
    simp [hn]
theorem rises_last {L : List Int} : rises (L.drop (L.length - 1)) = true := rises_drop_end (by omega)
theorem det_r30_form (r : Rul) (s : Stt) (h : okS s) (hr : r.Aisles.length ≤ 1073741824) (he : s.Locks.length = r.Aisles.length) : Det Tryz.prog 35 [en r, en s] [] (.bool (ordS r s)) [] := by
  refine det_finF mixed0 (knows_cons known_r30_hands (knows_cons known_R17Right knows_nil)) ok_r30_form 1 (by simp) ?_
  have ht := h.t; have hl := h.l; have hk := h.k
  have u1 := up h.c; have u2 := up h.u
  simp [-List.map_map, ic_r30_form, rs_r30_form, cr30_hands, u1, u2]
  obtain ⟨ids, hids⟩ : ∃ ids, s.Tasks.map (fun x => x.Sp.ID) = ids := ⟨_, rfl⟩
  obtain ⟨tks, htks⟩ : ∃ tks, s.Leases.map (fun x => x.Token) = tks := ⟨_, rfl⟩
  have hil : ids.length = s.Tasks.length := by rw [← hids]; simp
  have htl : tks.length = s.Leases.length := by rw [← htks]; simp
  have hO : ordS r s = (rises ids && rises (s.Crew.map fun x => x.ID) && rises (s.Units.map fun x => x.ID) && rises tks && s.Tasks.all p_orders_3 && s.Leases.all p_orders_4 && decide ((s.Locks.map fun x => x.ID) = r.Aisles.map fun x => x.ID)) := by rw [ordS, hids, htks]
  refine ⟨fun hc => ?_, fun h1 h2 => ?_⟩
  · rw [hO]
    grind
  refine LoopC.scanB Tsk.zero s.Tasks (fun i (_ : Unit) => ⟨[(2, .ptr 0 0 0), (3, .ptr 1 0 0), (5, .int .i64 i)], [.rows 8 [Cel.c r], .rows 8 [Cel.c s]]⟩)
    (fun i _ l => ordS r s = (rises (ids.drop (i - 1)) && l.all p_orders_3 && (rises tks && s.Leases.all p_orders_4 && decide ((s.Locks.map fun x => x.ID) = r.Aisles.map fun x => x.ID)))) () (by simp) (by simp) ?_ (fun i a l b hi ha hd hG => ?_) fun b hG => ?_
  · rw [hO, h1, h2]; simp [Bool.and_assoc, Bool.and_comm, Bool.and_left_comm]
  · have hb : a.Burnt.length ≤ 9223372036854775807 := up (h.ts a (mem_drop hd)).2
    have hn := nth_map' (fun x : Tsk => x.Sp.ID) Tsk.zero (0 : Int) hi
    rw [hids, ha] at hn
    rw [rises_pred (by omega), List.all_cons, hn] at hG
    have hn1 : nth ids (i - 1) 0 = (nth s.Tasks (i - 1) Tsk.zero).Sp.ID := by rw [← hids, nth_map' _ Tsk.zero _ (by omega)]
    rw [hn1] at hG
    simp [-List.map_map, hi, ha, cR17Right, hb, vcLoose, heapsOf]
    have hor : (0 < i → (nth s.Tasks (i - 1) Tsk.zero).Sp.ID < a.Sp.ID) → i = 0 ∨ (nth s.Tasks (i - 1) Tsk.zero).Sp.ID < a.Sp.ID := fun h => by
      rcases Nat.eq_zero_or_pos i with h0 | h0
      · exact .inl h0
      · exact .inr (h h0)
    refine ⟨fun _ => ⟨by omega, by omega⟩, fun _ => ⟨by omega, by omega⟩, hor, fun hc => ?_, fun hlt hrb => ⟨⟨by omega, by omega⟩, ?_⟩⟩
    · rw [hG]
      rcases hc with ⟨h0, hle⟩ | hrb
      · have g1 : ¬ i = 0 := by omega
        have g2 : ¬ (nth s.Tasks (i - 1) Tsk.zero).Sp.ID < a.Sp.ID := by omega
        simp [g1, g2]
      · simp [p_orders_3, hrb]
    · have g1 : (decide (i = 0) || decide ((nth s.Tasks (i - 1) Tsk.zero).Sp.ID < a.Sp.ID)) = true := by simpa using hor hlt
      rw [hG, g1]
      simp [p_orders_3, hrb]
  rw [← hil, rises_last] at hG
  simp only [List.all_nil, Bool.true_and] at hG
  simp [-List.map_map]
  refine LoopC.scanB Lse.zero s.Leases (fun i (_ : Unit) => ⟨[(2, .ptr 0 0 0), (3, .ptr 1 0 0), (6, .int .i64 i)], [.rows 8 [Cel.c r], .rows 8 [Cel.c s]]⟩)
    (fun i _ l => ordS r s = (rises (tks.drop (i - 1)) && l.all p_orders_4 && decide ((s.Locks.map fun x => x.ID) = r.Aisles.map fun x => x.ID))) () (by simp) (by simp) hG (fun i a l b hi ha hd hG => ?_) fun b hG => ?_
  · have hb : a.Want.length ≤ 9223372036854775807 := up (h.ls a (mem_drop hd))
    have hn := nth_map' (fun x : Lse => x.Token) Lse.zero (0 : Int) hi
    rw [htks, ha] at hn
    rw [rises_pred (by omega), List.all_cons, hn] at hG
    have hn1 : nth tks (i - 1) 0 = (nth s.Leases (i - 1) Lse.zero).Token := by rw [← htks, nth_map' _ Lse.zero _ (by omega)]
    rw [hn1] at hG
    simp [-List.map_map, hi, ha, cR17Right, hb, vcLoose, heapsOf]
    have hor : (0 < i → (nth s.Leases (i - 1) Lse.zero).Token < a.Token) → i = 0 ∨ (nth s.Leases (i - 1) Lse.zero).Token < a.Token := fun h => by
      rcases Nat.eq_zero_or_pos i with h0 | h0
      · exact .inl h0
      · exact .inr (h h0)
    refine ⟨fun _ => ⟨by omega, by omega⟩, fun _ => ⟨by omega, by omega⟩, hor, fun hc => ?_, fun hlt hrb => ⟨⟨by omega, by omega⟩, ?_⟩⟩
    · rw [hG]
      rcases hc with ⟨h0, hle⟩ | hrb
      · have g1 : ¬ i = 0 := by omega
        have g2 : ¬ (nth s.Leases (i - 1) Lse.zero).Token < a.Token := by omega
        simp [g1, g2]
      · simp [p_orders_4, hrb]
    · have g1 : (decide (i = 0) || decide ((nth s.Leases (i - 1) Lse.zero).Token < a.Token)) = true := by simpa using hor hlt
      rw [hG, g1]
      simp [p_orders_4, hrb]
  rw [← htl, rises_last] at hG
  simp only [List.all_nil, Bool.true_and] at hG
  simp [-List.map_map]
  refine LoopC.scanB Lck.zero s.Locks (fun i (_ : Unit) => ⟨[(2, .ptr 0 0 0), (3, .ptr 1 0 0), (7, .int .i64 i)], [.rows 8 [Cel.c r], .rows 8 [Cel.c s]]⟩)
    (fun i _ l => ordS r s = decide ((l.map fun x => x.ID) = (r.Aisles.drop i).map fun x => x.ID)) () (by simp) (by simp) (by simpa using hG) (fun i a l b hi ha hd hG => ?_) fun b hG => ?_
  · have hi' : i < r.Aisles.length := by omega
    have hy := drop_nth Ais.zero hi'
    rw [hy] at hG
    simp only [List.map_cons, List.cons.injEq] at hG
    by_cases e : a.ID = (nth r.Aisles i Ais.zero).ID
    · simp [-List.map_map, hi, hi', ha, e, vcLoose, heapsOf]
      refine ⟨by omega, ?_⟩
      rw [hG]; simp [e]
    · simp [-List.map_map, hi, hi', ha, e, vcLoose, heapsOf]
      rw [hG]; simp [e]
  · rw [hG, List.drop_of_length_le (by omega)]
    simp
def cr30_form : Ctr := C2 (fun (r : Rul) (s : Stt) => okS s ∧ r.Aisles.length ≤ 1073741824 ∧ s.Locks.length = r.Aisles.length) fun r s => .bool (ordS r s)
theorem known_r30_form : Known Tryz.prog 35 cr30_form := known_C2 (fun r s h => det_r30_form r s h.1 h.2.1 h.2.2) fun r s => flat_bool _
theorem det_r30_bounds (r : Rul) (s : Stt) (h : okS s) (hr : 1 ≤ r.Tasks ∧ r.Tasks ≤ 64) : Det Tryz.prog 36 [en r, en s] [] (.bool (witS r s)) [] := by
  refine det_finF mixed0 (knows_cons known_r30_in (knows_cons known_r30_released (knows_cons known_r30_task (knows_cons known_ID (knows_cons known_r30_lease (knows_cons known_r30_all knows_nil)))))) ok_r30_bounds 1 (by simp) ?_
  have ht := h.t; have hl := h.l; have hk := h.k; have hc := h.c; have hu := h.u
  have hz := nzero_map_le s
  simp [-List.map_map, -List.all_map, ic_r30_bounds, rs_r30_bounds, cr22_within, cr30_released, h, vcLoose, heapsOf]
  have e1 : (2147483647 - r.Tasks + (s.Tasks.length - nzero (s.Tasks.map fun x => x.Seq) : Int)) = 2147483647 - laterS r s := by simp only [laterS]; omega
  have hid : inR 1 999 = idOk := by funext n; simp [inR, idOk]
  have hW : witS r s = (inR r.Start 2147483647 s.Now && inR 0 (2147483647 - laterS r s) s.Seq && inR 0 2147483647 s.Token && (s.Tasks.all (p_within_3 s r Qid) && ((s.Crew.all fun x => idOk x.ID) && ((s.Units.all fun x => idOk x.ID) && (s.Leases.all (p_within_4 s Qid) && s.Locks.all (p_within_5 Qtick Qtoken)))))) := by
    rw [witS, hid, List.all_map, List.all_map]; simp only [Function.comp_def, Bool.and_assoc]
  refine ⟨fun _ => by omega, fun _ => by omega, fun hc => ?_, fun k1 k2 k3 => ?_⟩
  · rw [e1] at hc
    rw [hW]
    rcases hc with (hc | hc) | hc <;> simp [hc]
  rw [e1] at k2
  simp only [k1, k2, k3, Bool.true_and] at hW
  refine LoopC.scanB Tsk.zero s.Tasks (fun i (_ : Unit) => ⟨[(2, .ptr 0 0 0), (3, .ptr 1 0 0), (5, .int .i64 i)], [.rows 8 [Cel.c r], .rows 8 [Cel.c s]]⟩) (fun _ _ l => witS r s = (l.all (p_within_3 s r Qid) && ((s.Crew.all fun x => idOk x.ID) && ((s.Units.all fun x => idOk x.ID) && (s.Leases.all (p_within_4 s Qid) && s.Locks.all (p_within_5 Qtick Qtoken)))))) () (by simp) (by simp) hW (fun i a l b hi ha hd hG => ?_) fun b hG => ?_
  · have h1 := h.ts a (mem_drop hd)
    rw [hG]
    cases hp : p_within_3 s r Qid a
    · simp [hi, ha, cr30_task, h1, hp, vcLoose, heapsOf]
    · simp [hi, ha, cr30_task, h1, hp, vcLoose, heapsOf]
      omega
  have hW : witS r s = ((s.Crew.all fun x => idOk x.ID) && ((s.Units.all fun x => idOk x.ID) && (s.Leases.all (p_within_4 s Qid) && s.Locks.all (p_within_5 Qtick Qtoken)))) := hG
  clear hG
  simp [-List.map_map, -List.all_map]
  refine LoopC.scanB Hand.zero s.Crew (fun i (_ : Unit) => ⟨[(3, .ptr 1 0 0), (6, .int .i64 i)], [.rows 8 [Cel.c r], .rows 8 [Cel.c s]]⟩) (fun _ _ l => witS r s = ((l.all fun x => idOk x.ID) && ((s.Units.all fun x => idOk x.ID) && (s.Leases.all (p_within_4 s Qid) && s.Locks.all (p_within_5 Qtick Qtoken))))) () (by simp) (by simp) hW (fun i a l b hi ha hd hG => ?_) fun b hG => ?_
  · rw [hG]
    cases hp : idOk a.ID
    · simp [hi, ha, cID, hp, vcLoose, heapsOf]
    · simp [hi, ha, cID, hp, vcLoose, heapsOf]
      omega
  have hW : witS r s = ((s.Units.all fun x => idOk x.ID) && (s.Leases.all (p_within_4 s Qid) && s.Locks.all (p_within_5 Qtick Qtoken))) := hG
  clear hG
  simp [-List.map_map, -List.all_map]
  refine LoopC.scanB Hand.zero s.Units (fun i (_ : Unit) => ⟨[(3, .ptr 1 0 0), (7, .int .i64 i)], [.rows 8 [Cel.c r], .rows 8 [Cel.c s]]⟩) (fun _ _ l => witS r s = ((l.all fun x => idOk x.ID) && (s.Leases.all (p_within_4 s Qid) && s.Locks.all (p_within_5 Qtick Qtoken)))) () (by simp) (by simp) hW (fun i a l b hi ha hd hG => ?_) fun b hG => ?_
  · rw [hG]
    cases hp : idOk a.ID
    · simp [hi, ha, cID, hp, vcLoose, heapsOf]
    · simp [hi, ha, cID, hp, vcLoose, heapsOf]
      omega
  have hW : witS r s = (s.Leases.all (p_within_4 s Qid) && s.Locks.all (p_within_5 Qtick Qtoken)) := hG
  clear hG
  simp [-List.map_map, -List.all_map]
  refine LoopC.scanB Lse.zero s.Leases (fun i (_ : Unit) => ⟨[(3, .ptr 1 0 0), (8, .int .i64 i)], [.rows 8 [Cel.c r], .rows 8 [Cel.c s]]⟩) (fun _ _ l => witS r s = (l.all (p_within_4 s Qid) && s.Locks.all (p_within_5 Qtick Qtoken))) () (by simp) (by simp) hW (fun i a l b hi ha hd hG => ?_) fun b hG => ?_
  · have h1 := h.ls a (mem_drop hd)
    rw [hG]
    cases hp : p_within_4 s Qid a
    · simp [hi, ha, cr30_lease, h1, hp, vcLoose, heapsOf]
    · simp [hi, ha, cr30_lease, h1, hp, vcLoose, heapsOf]
      omega
  have hW : witS r s = s.Locks.all (p_within_5 Qtick Qtoken) := hG
  clear hG
  simp [-List.map_map, -List.all_map]
  refine LoopC.scanB Lck.zero s.Locks (fun i (_ : Unit) => ⟨[(3, .ptr 1 0 0), (9, .int .i64 i)], [.rows 8 [Cel.c r], .rows 8 [Cel.c s]]⟩) (fun _ _ l => witS r s = l.all (p_within_5 Qtick Qtoken)) () (by simp) (by simp) hW (fun i a l b hi ha hd hG => ?_) fun b hG => ?_
  · have h1 : a.Wait.length ≤ 9223372036854775807 := up (h.ks a (mem_drop hd))
    rw [hG]
    have hp : p_within_5 Qtick Qtoken a = (inR 0 2147483647 a.Holder && a.Wait.all (inR 1 2147483647)) := rfl
    rw [List.all_cons, hp]
    cases g1 : inR 0 2147483647 a.Holder
    · simp [hi, ha, g1, h1, cr22_within, cr30_all, vcLoose, heapsOf]
    · cases g2 : a.Wait.all (inR 1 2147483647)
      · simp [hi, ha, g1, g2, h1, cr22_within, cr30_all, vcLoose, heapsOf]
      · simp [hi, ha, g1, g2, h1, cr22_within, cr30_all, vcLoose, heapsOf]
        omega
  · rw [hG]
    simp
def cr30_bounds : Ctr := C2 (fun (r : Rul) (s : Stt) => okS s ∧ 1 ≤ r.Tasks ∧ r.Tasks ≤ 64) fun r s => .bool (witS r s)
theorem known_r30_bounds : Known Tryz.prog 36 cr30_bounds := known_C2 (fun r s h => det_r30_bounds r s h.1 h.2) fun r s => flat_bool _
theorem fit_locks {r : Rul} {s : Stt} (h : fitS r s = true) : s.Locks.length = r.Aisles.length := by
  simp only [fitS, Bool.and_eq_true, decide_eq_true_eq] at h
  exact h.1.1.1.2
theorem det_r30_Shape (r : Rul) (s : Stt) (h : okS s) (hr : r.Aisles.length ≤ 1073741824) : Det Tryz.prog 12 [en r, en s] [] (.int .i64 (shpErr r s)) [] := by
  refine det_finF mixed0 (knows_cons known_r22_Rules (knows_cons known_r30_big (knows_cons known_r30_form (knows_cons known_r30_bounds knows_nil)))) ok_r30_Shape 1 (by simp) ?_
  simp [ic_r30_Shape, rs_r30_Shape, cRules, cr30_big, cr30_form, cr30_bounds, h, hr, up hr]
  have e : shpErr r s = if rulErr r ≠ 0 then rulErr r else if fitS r s = false then 15 else if ordS r s = false then 3 else if witS r s = false then 2 else 0 := rfl
  refine ⟨fun h => by simp [e, h], fun h => ⟨fun h1 => by simp [e, h, h1], fun h1 => ⟨fit_locks h1, fun h2 => by simp [e, h, h1, h2], fun h2 => ⟨rulErr_zero h, fun h3 => by simp [e, h, h1, h2, h3], fun h3 => by simp [e, h, h1, h2, h3]⟩⟩⟩⟩
theorem known_r30_Shape : Known Tryz.prog 12 cShape := known_C2 (fun x y h => det_r30_Shape x y h.1 h.2) fun x y => flat_int _ _
theorem startOf_ok {r : Rul} (h : r.Aisles.length ≤ 40) : okS (startOf r) := by
  unfold startOf
  split
  · exact ⟨Nat.zero_le _, Nat.zero_le _, Nat.zero_le _, Nat.zero_le _, by simp; omega, fun x h => by simp at h, fun x h => by simp at h, fun x h => by simp at h; obtain ⟨a, _, rfl⟩ := h; exact Nat.zero_le _⟩
  · exact ⟨Nat.zero_le _, Nat.zero_le _, Nat.zero_le _, Nat.zero_le _, Nat.zero_le _, fun x h => by simp [Stt.zero] at h, fun x h => by simp [Stt.zero] at h, fun x h => by simp [Stt.zero] at h⟩
set_option maxHeartbeats 4000000 in
set_option maxRecDepth 40000 in
theorem det_StateTells (r : Rul) (wr : Rd.wf r) (a : Stt) (wa : Rd.wf a) (b : Stt) (wb : Rd.wf b) : Det Tryz.prog 3 [en r, en a, en b] [] (.bool true) [] := by
  refine det_finF mixed0 (knows_cons known_r30_Few (knows_cons known_Alive30 (knows_cons known_Start (knows_cons known_r30_Start (knows_cons known_r30_Same (knows_cons known_Shape (knows_cons known_r30_Shape (knows_cons known_StateSame (knows_cons known_StateClone knows_nil))))))))) ok_l30_StateTells 1 (by simp) ?_
  simp at wr wa wb
  obtain ⟨w1, w2, w3, w4, w5⟩ : a.Tasks.length ≤ 9223372036854775807 ∧ a.Crew.length ≤ 9223372036854775807 ∧ a.Units.length ≤ 9223372036854775807 ∧ a.Leases.length ≤ 9223372036854775807 ∧ a.Locks.length ≤ 9223372036854775807 := ⟨by omega, by omega, by omega, by omega, by omega⟩
  obtain ⟨x1, x2, x3, x4, x5⟩ : b.Tasks.length ≤ 9223372036854775807 ∧ b.Crew.length ≤ 9223372036854775807 ∧ b.Units.length ≤ 9223372036854775807 ∧ b.Leases.length ≤ 9223372036854775807 ∧ b.Locks.length ≤ 9223372036854775807 := ⟨by omega, by omega, by omega, by omega, by omega⟩
  clear wr wa wb
  by_cases hl : r.Aisles.length ≤ 40
  · have hl' : ¬ 40 < r.Aisles.length := by omega
    have hl2 : r.Aisles.length ≤ 1073741824 := by omega
    have hs := startOf_ok hl
    cases hfa : fewS a
    · simp [ic_l30_StateTells, rs_l30_StateTells, cr30_Few, cAlive30, hl', hfa, w1, w2, w3, w4, w5]
    · have hoa := few_ok hfa
      cases hfb : fewS b
      · simp [ic_l30_StateTells, rs_l30_StateTells, cr30_Few, cAlive30, hl', hfa, hfb, w1, w2, w3, w4, w5, x1, x2, x3, x4, x5]
      · simp [ic_l30_StateTells, rs_l30_StateTells, cr30_Few, cAlive30, hl', hl2, hfa, hfb, w1, w2, w3, w4, w5, x1, x2, x3, x4, x5, cStart, cStateSame, cShape, cStateClone, hs, hoa, vcLoose, heapsOf]
  · have hl' : 40 < r.Aisles.length := by omega
    simp [ic_l30_StateTells, rs_l30_StateTells, cr30_Few, cAlive30, hl', w1, w2, w3, w4, w5, x1, x2, x3, x4, x5]
end Go.Proofs.YtoapfffakfmioaaGreat.Sx
