/- The law BatchTurned. No conditions: a kit of our own. -/
import Derived.Test.YtaimhgmakgbfaaaFnBt4
namespace Go.Proofs.Ytaimhgmakgbfaaa.Sx
open Go Go.RowKit
open Hp (mget mput mdel HpS)
set_option linter.unusedVariables false
set_option linter.unusedSimpArgs false

theorem seq_mayB (N : List Int) (A : List Arc) : ∀ (k : Nat) (told : List Int) (j : Nat), j < (Gr.seqO N A k told).length → Gr.may N A (told ++ (Gr.seqO N A k told).take j) (nth (Gr.seqO N A k told) j 0) = true
  | 0, told, j, hj => by simp [Gr.seqO] at hj
  | k + 1, told, j, hj => by
    simp only [Gr.seqO] at hj ⊢
    cases h : Gr.avail N A told with
    | none => rw [h] at hj; simp at hj
    | some n =>
      rw [h] at hj
      simp only at hj ⊢
      cases j with
      | zero =>
        have := List.find?_some h
        simpa [nth] using this
      | succ j =>
        have := seq_mayB N A k (told ++ [n]) j (by simpa using hj)
        simpa [nth] using this
theorem told_preB {N : List Int} {A : List Arc} {j : Nat} (hj : j < (toldO N A).length) {a : Arc} (ha : a ∈ A) (h1 : a.To = nth (toldO N A) j 0) (h2 : a.From ∈ N) : ∃ i, i < j ∧ nth (toldO N A) i 0 = a.From := by
  have := seq_mayB N A N.length [] j hj
  rw [List.nil_append] at this
  have hf := Gr.free_iff.1 (Gr.may_iff.1 this).2 a ha h1 h2
  obtain ⟨i, hi, e⟩ := List.mem_iff_getElem.1 hf
  simp at hi
  have hi2 : i < (toldO N A).length := by unfold toldO; omega
  refine ⟨i, by omega, ?_⟩
  rw [nth_get hi2]
  rw [← e]
  simp [toldO]
theorem told_congr {N : List Int} {A B : List Arc} (h : ∀ a, a ∈ A ↔ a ∈ B) : toldO N A = toldO N B := by
  have h1 : Gr.freeL N A = Gr.freeL N B := by
    funext told n
    rw [Bool.eq_iff_iff, Gr.free_iff, Gr.free_iff]
    exact ⟨fun H a ha => H a ((h a).2 ha), fun H a ha => H a ((h a).1 ha)⟩
  have h2 : Gr.avail N A = Gr.avail N B := by
    funext told
    unfold Gr.avail Gr.may
    rw [h1]
  have h3 : ∀ k told, Gr.seqO N A k told = Gr.seqO N B k told := fun k => by
    induction k with
    | zero => intro told; rfl
    | succ k ih =>
      intro told
      simp only [Gr.seqO]
      rw [h2]
      cases Gr.avail N B told with
      | none => rfl
      | some n => simp only; rw [ih]
  exact h3 _ _
theorem mem_arcs {l : List Spec} {a : Arc} : a ∈ arcsOf l ↔ ∃ x ∈ l, a.From ∈ x.After ∧ a.To = x.ID := by
  unfold arcsOf arcX
  simp only [List.mem_flatMap, List.mem_map]
  constructor
  · rintro ⟨x, hx, n, hn, rfl⟩; exact ⟨x, hx, hn, rfl⟩
  · rintro ⟨x, hx, h1, h2⟩; exact ⟨x, hx, a.From, h1, by rw [← h2]⟩
theorem setL_sameB {a b : List Int} (h : ∀ x, x ∈ a ↔ x ∈ b) : setL a = setL b := rise_ext (rise_setL a) (rise_setL b) fun x => by rw [mem_setL, mem_setL, h]
theorem setL_once {a : List Int} (h : a.Nodup) : (setL a).length = a.length := by
  have h1 := Gr.nodup_len h (N := setL a) fun x hx => mem_setL.2 hx
  have h2 := setL_len a
  omega
theorem ids_set {l t : List Spec} (h : ∀ x, x ∈ l ↔ x ∈ t) : setL (idsOf l) = setL (idsOf t) := setL_sameB fun n => by
  simp only [idsOf, List.mem_map]
  exact ⟨fun ⟨x, hx, e⟩ => ⟨x, (h x).1 hx, e⟩, fun ⟨x, hx, e⟩ => ⟨x, (h x).2 hx, e⟩⟩
theorem told_same {l t : List Spec} (h : ∀ x, x ∈ l ↔ x ∈ t) : toldO (setL (idsOf l)) (arcsOf l) = toldO (setL (idsOf t)) (arcsOf t) := by
  rw [ids_set h]
  refine told_congr fun a => ?_
  rw [mem_arcs, mem_arcs]
  exact ⟨fun ⟨x, hx, e⟩ => ⟨x, (h x).1 hx, e⟩, fun ⟨x, hx, e⟩ => ⟨x, (h x).2 hx, e⟩⟩
theorem good_turned {room : Int} {k : List Tsk} {l t : List Spec} (g : GoodB room k l) (h : l.Perm t) : GoodB room k t := by
  have hm : ∀ x, x ∈ l ↔ x ∈ t := fun x => h.mem_iff
  have hi : (idsOf l).Perm (idsOf t) := h.map _
  refine ⟨fun e => g.some_ (by subst e; exact h.eq_nil), fun x hx => g.err x ((hm x).2 hx), by rw [← h.length_eq]; exact g.room_, fun x hx => g.new x ((hm x).2 hx), hi.nodup_iff.1 g.once, fun x hx n hn => ?_, fun x hx => g.sound x ((hm x).2 hx), ?_⟩
  · rw [← hi.mem_iff]; exact g.there x ((hm x).2 hx) n hn
  · rw [← told_same hm, ← ids_set hm]; exact g.all
theorem told_all {N : List Int} {A : List Arc} (hN : N.Pairwise (· < ·)) (h : (toldO N A).length = N.length) : ∀ n ∈ N, n ∈ toldO N A := fun n hn => by
  refine Classical.byContradiction fun hc => ?_
  have h1 := Gr.nodup_len (a := n :: toldO N A) (N := N) (List.nodup_cons.2 ⟨hc, told_nd A hN⟩) fun x hx => by
    rcases List.mem_cons.1 hx with rfl | hx
    · exact hn
    · exact told_sub A hN x hx
  simp at h1; omega
theorem nd_injB {l : List Int} (h : l.Nodup) {i j : Nat} (hi : i < l.length) (hj : j < l.length) (e : nth l i 0 = nth l j 0) : i = j := by
  rw [nth_get hi, nth_get hj] at e
  exact (List.getElem_inj h).1 e
/-- What comes last of a batch that may be may be left out. -/
theorem good_rest {room : Int} {k : List Tsk} {l : List Spec} (g : GoodB room k l) (hl : l.length ≠ 1) {z : Int} (hz : z = nth (toldO (setL (idsOf l)) (arcsOf l)) ((toldO (setL (idsOf l)) (arcsOf l)).length - 1) 0) : GoodB room k (l.filter fun x => decide (x.ID ≠ z)) := by
  have hN := rise_setL (idsOf l)
  have hall := told_all hN g.all
  have hnd := told_nd (arcsOf l) hN
  have hsub : ∀ {x}, x ∈ l.filter (fun x => decide (x.ID ≠ z)) → x ∈ l ∧ x.ID ≠ z := fun hx => by
    have := List.mem_filter.1 hx
    simpa using this
  have hin : ∀ {n}, n ∈ idsOf l → n ≠ z → n ∈ idsOf (l.filter fun x => decide (x.ID ≠ z)) := fun {n} hn hne => by
    obtain ⟨x, hx, rfl⟩ := List.mem_map.1 hn
    exact List.mem_map.2 ⟨x, List.mem_filter.2 ⟨hx, by simpa using hne⟩, rfl⟩
  have hpre : ∀ {j : Nat}, j < (toldO (setL (idsOf l)) (arcsOf l)).length → ∀ {a : Arc}, a ∈ arcsOf l → a.To = nth (toldO (setL (idsOf l)) (arcsOf l)) j 0 → a.From ∈ setL (idsOf l) → ∃ i, i < j ∧ nth (toldO (setL (idsOf l)) (arcsOf l)) i 0 = a.From := fun hj _ ha h1 h2 => told_preB hj ha h1 h2
  refine ⟨?_, fun x hx => g.err x (hsub hx).1, ?_, fun x hx => g.new x (hsub hx).1, ?_, fun x hx n hn => ?_, fun x hx => g.sound x (hsub hx).1, ?_⟩
  · intro he
    have hone := g.once
    match l, g.some_, hl, he, hone with
    | x :: y :: r, _, _, he, hone =>
      have h1 := List.filter_eq_nil_iff.1 he x (by simp)
      have h2 := List.filter_eq_nil_iff.1 he y (by simp)
      simp only [ne_eq, decide_not, Bool.not_eq_true', decide_eq_false_iff_not, Classical.not_not] at h1 h2
      simp [idsOf] at hone
      exact hone.1.1 (by rw [h1, h2])
  · have := List.length_filter_le (fun x : Spec => decide (x.ID ≠ z)) l
    have := g.room_
    omega
  · exact g.once.sublist (List.Sublist.map _ List.filter_sublist)
  · obtain ⟨h1, h2⟩ := hsub hx
    rcases g.there x h1 n hn with h | h
    · exact .inl h
    · refine .inr (hin h fun e => ?_)
      have hxm : x.ID ∈ toldO (setL (idsOf l)) (arcsOf l) := hall _ (mem_setL.2 (List.mem_map.2 ⟨x, h1, rfl⟩))
      obtain ⟨j, hj, ej⟩ := List.mem_iff_getElem.1 hxm
      obtain ⟨i, hi, ei⟩ := hpre hj (a := ⟨n, x.ID⟩) (mem_arcs.2 ⟨x, h1, hn, rfl⟩) (by rw [nth_get hj, ej]) (mem_setL.2 h)
      have h3 := nd_injB hnd (i := i) (j := (toldO (setL (idsOf l)) (arcsOf l)).length - 1) (by omega) (by omega) (by rw [ei, ← hz, e])
      omega
  · have hN' := rise_setL (idsOf (l.filter fun x => decide (x.ID ≠ z)))
    have hA : ∀ {a}, a ∈ arcsOf (l.filter fun x => decide (x.ID ≠ z)) → a ∈ arcsOf l := fun ha => by
      obtain ⟨x, hx, h1, h2⟩ := mem_arcs.1 ha
      exact mem_arcs.2 ⟨x, (hsub hx).1, h1, h2⟩
    have hI : ∀ {n}, n ∈ setL (idsOf (l.filter fun x => decide (x.ID ≠ z))) → n ∈ setL (idsOf l) := fun hn => by
      obtain ⟨x, hx, e⟩ := List.mem_map.1 (mem_setL.1 hn)
      exact mem_setL.2 (List.mem_map.2 ⟨x, (hsub hx).1, e⟩)
    have hend := (told_end (arcsOf (l.filter fun x => decide (x.ID ≠ z))) hN').1
    have key : ∀ (j : Nat), j < (toldO (setL (idsOf l)) (arcsOf l)).length → nth (toldO (setL (idsOf l)) (arcsOf l)) j 0 ∈ setL (idsOf (l.filter fun x => decide (x.ID ≠ z))) → nth (toldO (setL (idsOf l)) (arcsOf l)) j 0 ∈ toldO (setL (idsOf (l.filter fun x => decide (x.ID ≠ z)))) (arcsOf (l.filter fun x => decide (x.ID ≠ z))) := fun j => by
      induction j using Nat.strongRecOn with
      | _ j ih =>
        intro hj hm
        refine Classical.byContradiction fun hc => ?_
        have := List.find?_eq_none.1 hend _ hm
        have hnf : ¬ Gr.freeL (setL (idsOf (l.filter fun x => decide (x.ID ≠ z)))) (arcsOf (l.filter fun x => decide (x.ID ≠ z))) (toldO (setL (idsOf (l.filter fun x => decide (x.ID ≠ z)))) (arcsOf (l.filter fun x => decide (x.ID ≠ z)))) (nth (toldO (setL (idsOf l)) (arcsOf l)) j 0) = true := fun h => this (Gr.may_iff.2 ⟨hc, h⟩)
        rw [Gr.free_iff] at hnf
        simp only [Classical.not_forall] at hnf
        obtain ⟨a, ha, e1, e2, e3⟩ := hnf
        obtain ⟨i, hi, ei⟩ := hpre hj (hA ha) e1 (hI e2)
        have := ih i hi (by omega) (by rw [ei]; exact e2)
        rw [ei] at this
        exact e3 this
    have h1 := Gr.nodup_len (hN'.imp fun h => by omega : (setL (idsOf (l.filter fun x => decide (x.ID ≠ z)))).Nodup) (N := toldO (setL (idsOf (l.filter fun x => decide (x.ID ≠ z)))) (arcsOf (l.filter fun x => decide (x.ID ≠ z)))) fun n hn => by
      obtain ⟨j, hj, ej⟩ := List.mem_iff_getElem.1 (hall n (hI hn))
      have := key j hj (by rw [nth_get hj, ej]; exact hn)
      rw [nth_get hj, ej] at this
      exact this
    have h2 := told_len (arcsOf (l.filter fun x => decide (x.ID ≠ z))) hN'
    omega

/-! ### Order of a slice of one's own -/
def HT (t : List Spec) : List AObj := [.dead, .dead, .rows 9 (t.map Cel.c)]
theorem lowT (t : List Spec) : ∀ o ∈ HT t, LowO (HT t).length o := by
  simp [HT]
theorem stSpec (d n : Nat) (K : List Nat) (l : List Spec) : allR (stD (d + 1) n K) (l.map Cel.c) = True := allR_c (fun (x : Spec) a h => by
  simp only [c_Spec, List.mem_cons, List.mem_nil_iff, or_false] at h
  rcases h with rfl | rfl | rfl | rfl | rfl | rfl | rfl | rfl | rfl
  all_goals first | simp; done | (rw [stD_view]; exact closed_viewc _)) l
theorem det_bOrderT (l : List Spec) (hl : okB l) : Det Try.prog 48 [.sl 2 0 l.length] (HT l) (bordV l) (HT l) := by
  have hl1 : l.length ≤ 1073741823 := by have := hl.1; omega
  refine det_finK mixed0 (knows_cons known_gOrderN knows_nil) ok_batch_Order 2 (by simp) (lowT l) rfl ?_
  simp [ic_batch_Order, rs_batch_Order, HT]
  refine LoopC.scanR Spec.zero l (fun i (b : List Int × List Arc) => ⟨[(4, bs 3 (b.1.map Cel.c)), (5, bs 4 (b.2.map Cel.c)), (10, .sl 2 0 l.length), (11, .int .i64 l.length), (12, .int .i64 i)], [.dead, .dead, .rows 9 (l.map Cel.c), bob 1 (b.1.map Cel.c), bob 2 (b.2.map Cel.c)]⟩)
    (fun i b r => eqL b.1 (idsOf (l.take i)) ∧ eqL b.2 (arcsOf (l.take i))) ([], []) [0, 1, 2, 3, 4] (by simp [atR, gOk, cvw]; try decide) (by simp [eqL, idsOf, arcsOf]) (fun i a r b hi ha hd hG => ?_) fun b hG => ?_
  · obtain ⟨ids, arcs⟩ := b
    simp only at hG
    obtain ⟨h1, h2⟩ := hG
    unfold eqL at h1 h2
    have hai : a ∈ l := mem_drop hd
    have hoa : a.After.length ≤ 32767 := hl.2 a hai
    have hts := take_snoc hi ha
    have hlen := arcs_len (l := l.take i) fun x hx => hl.2 x (List.mem_of_mem_take hx)
    have hil : (l.take i).length ≤ 32766 := by have := hl.1; simp; omega
    have hi1 : ids.length ≤ 32767 := by rw [h1]; unfold idsOf; rw [List.length_map]; omega
    have hi2 : arcs.length ≤ 1073676289 - 32767 := by
      rw [h2]
      have := Nat.mul_le_mul_right 32767 hil
      omega
    simp [hi, ha]
    refine ⟨by omega, ?_⟩
    refine LoopC.scanR (0 : Int) a.After (fun j (b : List Arc) => ⟨[(4, bs 3 ((ids ++ [a.ID]).map Cel.c)), (5, bs 4 (b.map Cel.c)), (7, .ptr 5 0 0), (10, .sl 2 0 l.length), (11, .int .i64 l.length), (12, .int .i64 i), (22, .view (a.After.map Cel.c)), (23, .int .i64 a.After.length), (24, .int .i64 j)], [.dead, .dead, .rows 9 (l.map Cel.c), bob 1 ((ids ++ [a.ID]).map Cel.c), bob 2 (b.map Cel.c), .rows 9 [Cel.c a]]⟩)
      (fun j b r => eqL b (arcs ++ (a.After.take j).map fun n => ⟨n, a.ID⟩)) arcs [0, 1, 2, 6, 4, 5] (by simp [atR, gOk, cvw]; try decide) (by simp [eqL]) (fun j n r2 b hj hn hd2 hG => ?_) fun b hG => ?_
    · unfold eqL at hG
      have hb : b.length ≤ 1073676289 - 32767 + j := by rw [hG]; simp; omega
      have hft : (a.After.take (j + 1)).map (fun n => (⟨n, a.ID⟩ : Arc)) = (a.After.take j).map (fun n => ⟨n, a.ID⟩) ++ [⟨n, a.ID⟩] := by rw [take_nth hj, hn]; simp
      simp [hj, hn]
      refine ⟨by omega, by omega, b ++ [⟨n, a.ID⟩], ⟨[0, 1, 2, 3, 6, 5], by simp [atR, gOk, cvw] <;> decide⟩, ?_⟩
      show _ = _
      rw [← List.map_take, hft, hG, List.append_assoc]
    · unfold eqL at hG
      rw [List.take_length] at hG
      simp
      refine ⟨by omega, ids ++ [a.ID], b, ⟨[0, 1, 2, 3, 4], by simp [atR, gOk, cvw] <;> decide⟩, ?_, ?_⟩
      · show _ = _
        rw [hts, h1]; simp [idsOf]
      · show _ = _
        rw [hts, hG, h2]; simp [arcsOf, arcX]
  · obtain ⟨ids, arcs⟩ := b
    simp only at hG
    obtain ⟨h1, h2⟩ := hG
    unfold eqL at h1 h2
    rw [List.take_length] at h1 h2
    have hi1 : ids.length ≤ 1073741823 := by rw [h1]; simp [idsOf]; omega
    have hi2 : arcs.length ≤ 1073741823 := by
      have := arcs_len hl.2
      have := Nat.mul_le_mul_right 32767 hl.1
      rw [h2]; omega
    unfold bordV
    rw [← h1, ← h2]
    have hcl := closed_ordV ids arcs
    cases ids with
    | nil =>
      cases arcs with
      | nil =>
        simp [cgOrderN, ordV, stSpec]
        try rfl
      | cons y arcs =>
        simp at hi2
        simp [cgOrderN, ordV, stSpec, hi2]
        try omega
    | cons x ids =>
      simp at hi1
      cases arcs with
      | nil =>
        simp [cgOrderN, ordV, stSpec, hi1]
        try omega
      | cons y arcs =>
        simp at hi2
        simp [cgOrderN, ordV, stSpec, hi1, hi2]
        try omega
def isT : AV → Nat → Prop
  | .sl i r n, m => i = 2 ∧ r = 0 ∧ n = m
  | _, _ => False
@[simp] theorem isT_sl (i r n m : Nat) : isT (.sl i r n) m = (i = 2 ∧ r = 0 ∧ n = m) := rfl
@[simp] theorem isT_view (es : List (List AV)) (m : Nat) : isT (.view es) m = False := rfl
def cOrdT (l t : List Spec) : Ctr := ⟨fun a H => match a with
  | [a] => H = HT t ∧ (a = en l ∨ isT a t.length)
  | _ => False, fun a H => match a with
  | [.sl _ _ _] => bordV t
  | _ => bordV l, fun a H => H⟩
@[simp] theorem cOrdT_pre (l t : List Spec) (a : AV) (H : List AObj) : (cOrdT l t).pre [a] H = (H = HT t ∧ (a = en l ∨ isT a t.length)) := rfl
@[simp] theorem cOrdT_sl (l t : List Spec) (i r n : Nat) (H : List AObj) : (cOrdT l t).val [.sl i r n] H = bordV t := rfl
@[simp] theorem cOrdT_view (l t : List Spec) (es : List (List AV)) (H : List AObj) : (cOrdT l t).val [.view es] H = bordV l := rfl
@[simp] theorem cOrdT_hp (l t : List Spec) (a : List AV) (H : List AObj) : (cOrdT l t).hp a H = H := rfl
theorem known_OrdT (l t : List Spec) (hl : okB l) (ht : okB t) : Known Try.prog 48 (cOrdT l t) := fun args H hp => by
  match args, hp with
  | [a], ⟨h1, h2⟩ =>
    subst h1
    rcases h2 with rfl | h2
    · have := known_bOrder [en l] (HT t) ⟨okA_en [] l, by simpa using hl⟩
      simpa [cbOrder] using this
    · cases a <;> first | exact (h2 : False).elim | skip
      obtain ⟨rfl, rfl, rfl⟩ := h2
      exact det_bOrderT t ht
set_option maxHeartbeats 8000000 in
theorem det_BatchTurned (room : Int) (wr : Rd.wf room) (k : List Tsk) (wk : Rd.wf k) (l : List Spec) (wl : Rd.wf l) (by_ : BitVec 8) (wb : Rd.wf by_) : Det Try.prog 8 [en room, en k, en l, en by_] [] (.bool true) [] := by
  have hkl : ∀ x ∈ l, x.After.length ≤ 20 → okSp x := fun x _ h => by
    show x.After.length ≤ 32767
    omega
  generalize hq : by_.toNat % l.length = q
  generalize ht : l.drop q ++ l.take q = t
  by_cases hl : l.length ≤ 20 ∧ (l.all fun x => decide (x.After.length ≤ 20)) = true
  · obtain ⟨hl1, hl2⟩ := hl
    have hl4 : ∀ x ∈ l, x.After.length ≤ 20 := fun x hx => by
      have := List.all_eq_true.1 hl2 x hx
      simpa using this
    have hl3 : okB l := ⟨by omega, fun x hx => hkl x hx (hl4 x hx)⟩
    have hp : l.Perm t := by
      rw [← ht]
      have := List.perm_append_comm (l₁ := l.take q) (l₂ := l.drop q)
      rw [List.take_append_drop] at this
      exact this
    have ht3 : okB t := ⟨by rw [← hp.length_eq]; omega, fun x hx => hl3.2 x (hp.mem_iff.2 hx)⟩
    refine det_finF mixed0 (knows_cons known_r23_Few (knows_cons known_R22Few (knows_cons known_bCheck (knows_cons known_Alive23 (knows_cons (known_OrdT l t hl3 ht3) (knows_cons known_Ints knows_nil)))))) ok_l23_BatchTurned 1 (by simp) ?_
    have hk0 : k.length ≤ 9223372036854775807 := wk.1
    have hl0 : l.length ≤ 9223372036854775807 := wl.1
    by_cases hk : k.length ≤ 70 ∧ fewT k = true
    · obtain ⟨hk1, hk2⟩ := hk
      have hk3 : k.length ≤ 1073741824 := by omega
      by_cases hc : chkF room k l = 0
      · have g := (chk_iff room k l).1 hc
        have h0 : 0 < l.length := List.length_pos_iff.2 g.some_
        have hql : q < l.length := by rw [← hq]; exact Nat.mod_lt _ h0
        have hn : ¬ l = [] := g.some_
        have hqi : Int.tmod (by_.toNat : Int) l.length = q := by rw [← hq]; rfl
        have e1 : List.drop q (List.map Cel.c l) ++ List.take q (List.map Cel.c l) = t.map Cel.c := by rw [← ht]; simp
        have e2 : l.length - q + min q l.length = t.length := by rw [← ht]; simp
        have h9 : ∀ x, x ∈ List.map Cel.c l → x.length = 9 := fun x hx => by
          obtain ⟨y, _, rfl⟩ := List.mem_map.1 hx
          rfl
        have h9d : ∀ x, x ∈ List.drop q (List.map Cel.c l) → x.length = 9 := fun x hx => h9 x (List.mem_of_mem_drop hx)
        have h9t : ∀ x, x ∈ List.take q (List.map Cel.c l) → x.length = 9 := fun x hx => h9 x (List.mem_of_mem_take hx)
        have hct := (chk_iff room k t).2 (good_turned g hp)
        have hts := told_same (l := l) (t := t) fun x => hp.mem_iff
        have hss := ids_set (l := l) (t := t) fun x => hp.mem_iff
        have hga := g.all
        have hsl : (setL (idsOf l)).length = l.length := by rw [setL_once g.once]; simp [idsOf]
        have hby := by_.isLt
        have htss : toldO (setL (idsOf l)) (arcsOf t) = toldO (setL (idsOf l)) (arcsOf l) := by rw [hts, hss]
        have hol : (toldO (setL (idsOf l)) (arcsOf l)).length = l.length := by rw [hga, setL_once g.once]; simp [idsOf]
        have htl : t.length = l.length := hp.length_eq.symm
        have htc : ∀ x ∈ t.map Cel.c, Cel.ok (α := Spec) (HT t) x := fun x hx => by
          obtain ⟨y, _, rfl⟩ := List.mem_map.1 hx
          exact Cel.ok_c _ y
        have hrest := fun h1 : l.length ≠ 1 => good_rest g h1 rfl
        simp [ic_l23_BatchTurned, rs_l23_BatchTurned, cr23_Few, cR22Few, cbCheck, cAlive23, cInts, hk0, hl0, hk1, hk2, hl1, hl3, hk3, hc, hn, hqi, e1, e2, HT, bordV, ordV, ← hss, htss, hct, ht3, hga, vcLoose, heapsOf, cut]
        generalize toldO (setL (idsOf l)) (arcsOf l) = T at *
        generalize hrs : (l.filter fun x => decide (x.ID ≠ nth T (T.length - 1) 0)) = rest at *
        have hz : T.length - 1 < T.length := by omega
        refine fun _ => ⟨by omega, ⟨by omega, ⟨h9d, by omega⟩, by omega, ⟨h9t, by omega⟩, by omega, hsl, fun _ => ?_⟩, ?_⟩
        rotate_left
        · omega
        refine LoopC.scanR Spec.zero l (fun i (b : List Spec) => ⟨[(0, .int .i64 room), (1, .view (k.map Cel.c)), (2, .view (l.map Cel.c)), (11, .view (T.map Cel.c)), (15, bs 0 (b.map Cel.c)), (89, .view (l.map Cel.c)), (90, .int .i64 l.length), (91, .int .i64 i)], [bob 9 (b.map Cel.c)]⟩)
          (fun i b r => eqL b ((l.take i).filter fun x => decide (x.ID ≠ nth T (T.length - 1) 0))) [] [0] (by simp [atR, gOk, cvw]; try decide) (by simp [eqL]) (fun i a r b hi ha hd hG => ?_) fun b hG => ?_
        · unfold eqL at hG
          have htk := take_snoc hi ha
          have hb : b.length ≤ i := by
            rw [hG]
            have := List.length_filter_le (fun x : Spec => decide (x.ID ≠ nth T (T.length - 1) 0)) (l.take i)
            simp at this ⊢; omega
          have hT1 : (T.length : Int) - 1 < T.length := by omega
          simp [hi, ha]
          refine ⟨by omega, by omega, fun hne => ⟨by omega, by omega, b ++ [a], ⟨[2], by simp [atR, gOk, cvw] <;> decide⟩, ?_⟩, fun he => ⟨by omega, b, ⟨[0], by simp [atR, gOk, cvw] <;> decide⟩, ?_⟩⟩
          · show _ = _
            rw [htk, List.filter_append, hG]
            simp [hne]
          · show _ = _
            rw [htk, List.filter_append, hG]
            simp [he]
        · unfold eqL at hG
          rw [List.take_length, hrs] at hG
          subst hG
          have hob : okB b := by
            rw [← hrs]
            refine ⟨?_, fun x hx => hl3.2 x (List.mem_filter.1 hx).1⟩
            have := List.length_filter_le (fun x : Spec => decide (x.ID ≠ nth T (T.length - 1) 0)) l
            omega
          simp
          refine ⟨fun _ => ⟨hk3, hob⟩, ?_⟩
          by_cases h1 : l.length = 1
          · exact .inl h1
          · exact .inr ((chk_iff room k b).2 (hrest h1))
      · simp [ic_l23_BatchTurned, rs_l23_BatchTurned, cr23_Few, cR22Few, cbCheck, cAlive23, hk0, hl0, hk1, hk2, hl1, hl3, hk3, hc]
        skip
    · simp [ic_l23_BatchTurned, rs_l23_BatchTurned, cr23_Few, cR22Few, cbCheck, cAlive23, hk0, hl0]
      exact ⟨fun h1 h2 => absurd ⟨h1, h2⟩ hk, fun h1 h2 => absurd ⟨h1, h2⟩ hk⟩
  · refine det_finF mixed0 (knows_cons known_r23_Few (knows_cons known_R22Few (knows_cons known_bCheck (knows_cons known_Alive23 knows_nil)))) ok_l23_BatchTurned 1 (by simp) ?_
    have hk0 : k.length ≤ 9223372036854775807 := wk.1
    have hl0 : l.length ≤ 9223372036854775807 := wl.1
    simp [ic_l23_BatchTurned, rs_l23_BatchTurned, cr23_Few, cR22Few, cbCheck, cAlive23, hk0, hl0]
    have hl' : ¬ (l.length ≤ 20 ∧ ∀ x ∈ l, x.After.length ≤ 20) := by simpa using hl
    exact ⟨fun _ _ h1 h2 => absurd ⟨h1, h2⟩ hl', fun _ _ h1 h2 => absurd ⟨h1, h2⟩ hl'⟩
end Go.Proofs.Ytaimhgmakgbfaaa.Sx
