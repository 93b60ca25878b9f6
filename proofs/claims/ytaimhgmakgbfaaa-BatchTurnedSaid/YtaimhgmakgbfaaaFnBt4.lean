/- Package batch: when a batch may be, plainly; the law BatchFull. No conditions: a kit of our own. -/
import Derived.Test.YtaimhgmakgbfaaaFnBt3
namespace Go.Proofs.Ytaimhgmakgbfaaa.Sx
open Go Go.RowKit
open Hp (mget mput mdel HpS)
set_option linter.unusedVariables false
set_option linter.unusedSimpArgs false

theorem lvOf_put (m : List (Int × Int)) (k v n : Int) : Gr.lvOf (mput m k v) n = if n = k then v else Gr.lvOf m n := by
  unfold Gr.lvOf
  rw [Hp.mget_put]
  split <;> rfl
theorem lvOf_incr (m : List (Int × Int)) (x : Spec) (n : Int) : Gr.lvOf (incr m x) n = Gr.lvOf m n + if n = x.ID then 1 else 0 := by
  unfold incr
  rw [lvOf_put]
  split
  · rename_i h; rw [h]
  · omega
theorem lvOf_incrs : ∀ (l : List Spec) (m : List (Int × Int)) (n : Int), Gr.lvOf (l.foldl incr m) n = Gr.lvOf m n + ((idsOf l).count n : Int)
  | [], m, n => by simp [idsOf]
  | x :: l, m, n => by
    simp only [List.foldl_cons]
    rw [lvOf_incrs l, lvOf_incr]
    simp only [idsOf, List.map_cons, List.count_cons, beq_iff_eq]
    by_cases h : n = x.ID
    · simp [h]; omega
    · have : ¬ x.ID = n := fun e => h e.symm
      simp [h, this]
theorem lvOf_frF (l : List Spec) (n : Int) : (mget (frF l) n).getD 0 = ((idsOf l).count n : Int) := by
  have := lvOf_incrs l [] n
  have e : Gr.lvOf ([] : List (Int × Int)) n = 0 := rfl
  rw [e, Int.zero_add] at this
  exact this
theorem knF_some : ∀ (k : List Tsk) (n : Int), (mget (knF k) n).isSome = true ↔ n ∈ k.map (·.Sp.ID)
  | [], n => by simp [knF, mget]
  | x :: k, n => by
    have ih := knF_some k n
    have e : knF (x :: k) = mput (knF k) x.Sp.ID x.Status := rfl
    rw [e, Hp.mget_put]
    by_cases h : n = x.Sp.ID
    · simp [h]
    · simp only [h, if_false, List.map_cons, List.mem_cons, false_or]; exact ih
theorem firstErr_iff : ∀ (l : List Spec), firstErr l = 0 ↔ ∀ x ∈ l, specErr x = 0
  | [] => by simp [firstErr]
  | x :: l => by
    have ih := firstErr_iff l
    simp only [firstErr]
    by_cases h : specErr x = 0
    · simp [h, ih]
    · simp [h]
/-- A batch may be. -/
structure GoodB (room : Int) (k : List Tsk) (l : List Spec) : Prop where
  some_ : l ≠ []
  err : ∀ x ∈ l, specErr x = 0
  room_ : (k.length : Int) + l.length ≤ room
  new : ∀ x ∈ l, x.ID ∉ k.map (·.Sp.ID)
  once : (idsOf l).Nodup
  there : ∀ x ∈ l, ∀ n ∈ x.After, n ∈ k.map (·.Sp.ID) ∨ n ∈ idsOf l
  sound : ∀ x ∈ l, ∀ n ∈ x.After, soundB (knF k) n = true
  all : (toldO (setL (idsOf l)) (arcsOf l)).length = (setL (idsOf l)).length
theorem eachB_iff (l : List Spec) (p : Int → Bool) : eachB l p = true ↔ ∀ x ∈ l, ∀ n ∈ x.After, p n = true := by
  simp [eachB]
theorem twice_iff (k : List Tsk) (l : List Spec) : l.any (twiceB (knF k) (frF l)) = false ↔ (∀ x ∈ l, x.ID ∉ k.map (·.Sp.ID)) ∧ (idsOf l).Nodup := by
  rw [List.any_eq_false]
  have key : ∀ x, twiceB (knF k) (frF l) x = true ↔ x.ID ∈ k.map (·.Sp.ID) ∨ 1 < (idsOf l).count x.ID := fun x => by
    unfold twiceB
    rw [Bool.or_eq_true, knF_some, lvOf_frF, decide_eq_true_eq]
    constructor
    · rintro (h | h)
      · exact .inl h
      · exact .inr (by omega)
    · rintro (h | h)
      · exact .inl h
      · exact .inr (by omega)
  constructor
  · intro h
    refine ⟨fun x hx hm => h x hx ((key x).2 (.inl hm)), List.nodup_iff_count.2 fun n => ?_⟩
    by_cases hn : n ∈ idsOf l
    · obtain ⟨x, hx, rfl⟩ := List.mem_map.1 hn
      have : ¬ 1 < (idsOf l).count x.ID := fun h' => h x hx ((key x).2 (.inr h'))
      show (idsOf l).count x.ID ≤ 1
      omega
    · rw [List.count_eq_zero_of_not_mem hn]; omega
  · rintro ⟨h1, h2⟩ x hx h
    rcases (key x).1 h with h | h
    · exact h1 x hx h
    · have := List.nodup_iff_count.1 h2 x.ID
      omega
theorem there_iff (k : List Tsk) (l : List Spec) (n : Int) : thereB (knF k) (frF l) n = true ↔ n ∈ k.map (·.Sp.ID) ∨ n ∈ idsOf l := by
  unfold thereB
  rw [Bool.or_eq_true, knF_some, lvOf_frF, decide_eq_true_eq]
  have : (0 : Int) < ((idsOf l).count n : Int) ↔ n ∈ idsOf l := by
    rw [← List.count_pos_iff]; omega
  rw [this]
theorem chk_iff (room : Int) (k : List Tsk) (l : List Spec) : chkF room k l = 0 ↔ GoodB room k l := by
  unfold chkF
  constructor
  · intro h
    split at h
    · omega
    · rename_i h1
      split at h
      · rename_i h2; exact absurd h h2
      · rename_i h2
        split at h
        · omega
        · rename_i h3
          split at h
          · omega
          · rename_i h4
            split at h
            · omega
            · rename_i h5
              split at h
              · omega
              · rename_i h6
                split at h
                · omega
                · rename_i h7
                  simp only [Bool.not_eq_true', Bool.not_eq_false, decide_eq_true_eq, Bool.not_eq_true, ne_eq, Classical.not_not] at h2 h4 h5 h6 h7
                  have h4' := (twice_iff k l).1 h4
                  exact ⟨h1, (firstErr_iff l).1 h2, by omega, h4'.1, h4'.2, fun x hx n hn => (there_iff k l n).1 ((eachB_iff l _).1 h5 x hx n hn), (eachB_iff l _).1 h6, h7⟩
  · intro g
    have h4 := (twice_iff k l).2 ⟨g.new, g.once⟩
    have h5 := (eachB_iff l (thereB (knF k) (frF l))).2 fun x hx n hn => (there_iff k l n).2 (g.there x hx n hn)
    have h6 := (eachB_iff l (soundB (knF k))).2 g.sound
    have h2 := (firstErr_iff l).2 g.err
    have h3 : ¬ room < (k.length : Int) + l.length := by have := g.room_; omega
    simp [g.some_, h2, h3, h4, h5, h6, g.all]

/-! ### what must come at any rate -/
def sp1 : Spec := ⟨1, 0, 0#64, 0#64, ⟨0, 0⟩, ⟨0, 0⟩, []⟩
def sp2 : Spec := ⟨2, 0, 0#64, 0#64, ⟨0, 0⟩, ⟨0, 0⟩, [1]⟩
def spR : Spec := ⟨1, 0, 0#64, 0#64, ⟨0, 0⟩, ⟨0, 0⟩, [2]⟩
theorem al_b1 : chkF 2 [] [sp1, sp2] = 0 := by decide
theorem al_b2 : chkF 1 [] [sp1, sp2] = 9 := by decide
theorem al_b3 : chkF 2 [] [spR, sp2] = 8 := by decide
theorem al_b5 : setL (idsOf [sp2, sp1]) = [1, 2] := rise_ext (rise_setL _) (by decide) fun x => by
  rw [mem_setL]
  simp [idsOf, sp1, sp2]
  omega
theorem al_b4 : toldO [1, 2] (arcsOf [sp2, sp1]) = [1, 2] := by decide
theorem al_b6 : freeF [] [sp2, sp1] = [1] := by decide
theorem det_Alive23 : Det Try.prog 47 [] [] (.bool true) [] := by
  refine det_finF mixed0 (knows_cons known_bOrder (knows_cons known_bCheck (knows_cons known_Ints (knows_cons known_bFree knows_nil)))) ok_l23_alive 1 (by simp) ?_
  have h1 := al_b1
  have h2 := al_b2
  have h3 := al_b3
  have h4 := al_b4
  have h5 := al_b5
  have h6 := al_b6
  simp only [sp1, sp2, spR] at h1 h2 h3 h4 h5 h6
  simp [ic_l23_alive, rs_l23_alive, cbOrder, cbCheck, cInts, cbFree, bordV, ordV, h1, h2, h3, h4, h5, h6, okB, okSp]
def cAlive23 : Ctr := C0 (.bool true)
theorem known_Alive23 : Known Try.prog 47 cAlive23 := known_C0 det_Alive23 (.bool _)

/-! ### BatchFull -/
def kcF (k : List Tsk) : List (Int × Int) := k.foldl (fun m x => incr m x.Sp) []
theorem kcF_take {l : List Tsk} {i : Nat} (hi : i < l.length) {a : Tsk} (ha : nth l i Tsk.zero = a) : kcF (l.take (i + 1)) = incr (kcF (l.take i)) a.Sp := by
  have e : l.take (i + 1) = l.take i ++ [a] := by
    rw [List.take_add_one, List.getElem?_eq_getElem hi, ← ha, nth_get hi]; rfl
  rw [e]; simp [kcF]
theorem kcF_eq (k : List Tsk) : kcF k = frF (k.map (·.Sp)) := by simp [kcF, frF, List.foldl_map]
theorem kc_lv (k : List Tsk) (n : Int) : Gr.lvOf (kcF k) n = ((k.map (·.Sp.ID)).count n : Int) := by
  rw [kcF_eq]
  have := lvOf_frF (k.map (·.Sp)) n
  have e : idsOf (k.map (·.Sp)) = k.map (·.Sp.ID) := by simp [idsOf]
  rw [e] at this
  exact this
theorem incr_keys (m : List (Int × Int)) (x : Spec) (n : Int) : (mget (incr m x) n).isSome = true ↔ n = x.ID ∨ (mget m n).isSome = true := by
  unfold incr
  rw [Hp.mget_put]
  by_cases h : n = x.ID <;> simp [h]
theorem incrs_keys : ∀ (l : List Spec) (m : List (Int × Int)) (n : Int), (mget (l.foldl incr m) n).isSome = true ↔ n ∈ idsOf l ∨ (mget m n).isSome = true
  | [], m, n => by simp [idsOf]
  | x :: l, m, n => by
    simp only [List.foldl_cons]
    rw [incrs_keys l, incr_keys]
    simp only [idsOf, List.map_cons, List.mem_cons]
    constructor
    · rintro (h | h | h) <;> simp [h]
    · rintro ((h | h) | h) <;> simp [h]
theorem kc_keys (k : List Tsk) (n : Int) : (mget (kcF k) n).isSome = true ↔ n ∈ k.map (·.Sp.ID) := by
  rw [kcF_eq]
  unfold frF
  rw [incrs_keys]
  have : ¬ (mget ([] : List (Int × Int)) n).isSome = true := by simp [mget]
  simp [idsOf, this]
theorem put_len {m : List (Int × Int)} {k : Int} (v : Int) (h : mget m k = none) : (mput m k v).length = m.length + 1 := by
  induction m with
  | nil => rfl
  | cons x m ih =>
    have h0 := Hp.mget_none.1 h
    simp only [List.map_cons, List.mem_cons, not_or] at h0
    simp only [mput]
    rw [if_neg fun e => h0.1 e.symm]
    simp only [List.length_cons]
    rw [ih (Hp.mget_none.2 h0.2)]
theorem kc_len (k : List Tsk) : (kcF k).length ≤ k.length := by
  have put_le : ∀ (m : List (Int × Int)) (n v : Int), (mput m n v).length ≤ m.length + 1 := fun m => by
    induction m with
    | nil => intro n v; simp [mput]
    | cons x m ih =>
      intro n v
      simp only [mput]
      split
      · simp
      · simp only [List.length_cons]; have := ih n v; omega
  have key : ∀ (k : List Tsk) (m : List (Int × Int)), (k.foldl (fun m x => incr m x.Sp) m).length ≤ m.length + k.length := fun k => by
    induction k with
    | nil => intro m; simp
    | cons x k ih =>
      intro m
      simp only [List.foldl_cons, List.length_cons]
      have := ih (incr m x.Sp)
      have := put_le m x.Sp.ID (Gr.lvOf m x.Sp.ID + 1)
      unfold incr at *
      omega
  simpa [kcF] using key k []
set_option maxHeartbeats 8000000 in
theorem det_BatchFull (room : Int) (wr : Rd.wf room) (k : List Tsk) (wk : Rd.wf k) (l : List Spec) (wl : Rd.wf l) : Det Try.prog 9 [en room, en k, en l] [] (.bool true) [] := by
  refine det_finF mixed0 (knows_cons known_r23_Few (knows_cons known_R22Few (knows_cons known_bCheck (knows_cons known_Alive23 knows_nil)))) ok_l23_BatchFull 1 (by simp) ?_
  have hk0 : k.length ≤ 9223372036854775807 := wk.1
  have hl0 : l.length ≤ 9223372036854775807 := wl.1
  by_cases hk : k.length ≤ 70 ∧ fewT k = true
  · by_cases hl : l.length ≤ 30 ∧ (l.all fun x => decide (x.After.length ≤ 20)) = true
    · obtain ⟨hk1, hk2⟩ := hk
      obtain ⟨hl1, hl2⟩ := hl
      have hk3 : k.length ≤ 1073741824 := by omega
      have hl3 : okB l := ⟨by omega, fun x hx => by
        have := List.all_eq_true.1 hl2 x hx
        simp at this
        show x.After.length ≤ 32767
        omega⟩
      have hl4 : ∀ x ∈ l, x.After.length ≤ 20 := fun x hx => by
        have := List.all_eq_true.1 hl2 x hx
        simpa using this
      by_cases hc : chkF room k l = 0
      · have g := (chk_iff room k l).1 hc
        have hnd := List.nodup_iff_count.1 g.once
        simp [ic_l23_BatchFull, rs_l23_BatchFull, cr23_Few, cR22Few, cbCheck, cAlive23, hk0, hl0, hk1, hk2, hl1, hl3, hk3, hc]
        intro _
        refine LoopC.scanR Tsk.zero k (fun i (b : List (Int × Int)) => ⟨[(0, .int .i64 room), (1, .view (k.map Cel.c)), (2, .view (l.map Cel.c)), (7, .map 0), (34, .view (k.map Cel.c)), (35, .int .i64 k.length), (36, .int .i64 i)], [.imap (b.map ie)]⟩)
          (fun i b r => eqL b (kcF (k.take i)) ∧ ∀ n, 0 ≤ Gr.lvOf b n ∧ Gr.lvOf b n ≤ i) [] [0] (by simp [atR, gOk, cvw]; try decide) (by simp [eqL, kcF, Gr.lvOf, mget]) (fun i a r b hi ha hd hG => ?_) fun b hG => ?_
        · obtain ⟨hG, hb⟩ := hG
          unfold eqL at hG
          have e := kcF_take hi ha
          rw [← hG] at e
          have hba := hb a.Sp.ID
          have hlv : ∀ k, (mget b k).getD 0 = Gr.lvOf b k := fun _ => rfl
          simp [hi, ha, hlv]
          refine ⟨by omega, by omega, incr b a.Sp, ⟨[0], by simp [atR, gOk, cvw, incr] <;> decide⟩, e.symm, lv_more hb⟩
        · obtain ⟨hG, hb⟩ := hG
          unfold eqL at hG
          rw [List.take_length] at hG
          have hM : ∀ x ∈ l, mget b x.ID = none := fun x hx => by
            have := g.new x hx
            rw [← kc_keys, ← hG] at this
            cases h : mget b x.ID with
            | none => rfl
            | some v => rw [h] at this; simp at this
          have hMk : ∀ n, (mget b n).isSome = true ↔ n ∈ k.map (·.Sp.ID) := fun n => by rw [hG]; exact kc_keys k n
          have hMl : ∀ n, Gr.lvOf b n = ((k.map (·.Sp.ID)).count n : Int) := fun n => by rw [hG]; exact kc_lv k n
          have hMn : b.length ≤ 70 := by rw [hG]; have := kc_len k; omega
          simp
          refine LoopC.scanR Spec.zero l (fun i (m : List (Int × Int)) => ⟨[(0, .int .i64 room), (1, .view (k.map Cel.c)), (2, .view (l.map Cel.c)), (7, .map 0), (10, .int .i64 b.length), (49, .view (l.map Cel.c)), (50, .int .i64 l.length), (51, .int .i64 i)], [.imap (m.map ie)]⟩)
            (fun i m r => eqL m ((l.take i).foldl incr b) ∧ m.length = b.length + i) b [0] (by simp [atR, gOk, cvw]; try decide) (by simp [eqL]) (fun i a r m hi ha hd hG => ?_) fun m hG => ?_
          · obtain ⟨hG, hb⟩ := hG
            unfold eqL at hG
            have e : (l.take (i + 1)).foldl incr b = incr m a := by rw [take_snoc hi ha, hG]; simp
            have hai : a ∈ l := mem_drop hd
            have hni : a.ID ∉ idsOf (l.take i) := fun hm => by
              have h1 := hnd a.ID
              have h2 : idsOf l = idsOf (l.take i) ++ (a.ID :: idsOf r) := by
                have h3 : l = l.take i ++ (a :: r) := by rw [← hd, List.take_append_drop]
                have h4 : idsOf (l.take i ++ (a :: r)) = idsOf (l.take i) ++ (a.ID :: idsOf r) := by simp [idsOf]
                rw [← h4, ← h3]
              rw [h2, List.count_append, List.count_cons] at h1
              have h3 := List.count_pos_iff.2 hm
              simp at h1
              omega
            have hno : mget m a.ID = none := by
              cases h : mget m a.ID with
              | none => rfl
              | some v =>
                have := (incrs_keys (l.take i) b a.ID).1 (by rw [← hG, h]; rfl)
                rcases this with h5 | h5
                · exact absurd h5 hni
                · rw [hM a hai] at h5; cases h5
            have hlen := put_len (0 + 1) hno
            simp [hi, ha, hno, Hp.mget_put]
            refine ⟨by omega, incr m a, ⟨[0], by simp [atR, gOk, cvw, incr, Gr.lvOf, hno] <;> decide⟩, e.symm, ?_⟩
            simp only [incr, Gr.lvOf, hno, Option.getD_none]
            omega
          · obtain ⟨hG, hb⟩ := hG
            unfold eqL at hG
            rw [List.take_length] at hG
            have hall : ∀ n, n ∈ k.map (·.Sp.ID) ∨ n ∈ idsOf l → ¬ (mget m n).getD 0 = 0 := fun n hn h0 => by
              have h1 : Gr.lvOf m n = Gr.lvOf b n + ((idsOf l).count n : Int) := by rw [hG]; exact lvOf_incrs l b n
              rw [hMl] at h1
              unfold Gr.lvOf at h1
              rw [h0] at h1
              rcases hn with hn | hn
              · have := List.count_pos_iff.2 hn; omega
              · have := List.count_pos_iff.2 hn; omega
            simp
            refine LoopC.scan Spec.zero l (fun i => ⟨[(0, .int .i64 room), (1, .view (k.map Cel.c)), (2, .view (l.map Cel.c)), (7, .map 0), (10, .int .i64 b.length), (66, .view (l.map Cel.c)), (67, .int .i64 l.length), (68, .int .i64 i)], [.imap (m.map ie)]⟩)
              (fun r => ∀ x ∈ r, x ∈ l) (by simp) (by simp) (fun _ h => h) (fun i a r hi ha hG => ?_) fun _ => ?_
            · have hai := hG a (by simp)
              have hG' : ∀ x ∈ r, x ∈ l := fun x hx => hG x (List.mem_cons_of_mem _ hx)
              have hal := hl4 a hai
              simp [hi, ha]
              refine LoopC.scan (0 : Int) a.After (fun j => ⟨[(0, .int .i64 room), (1, .view (k.map Cel.c)), (2, .view (l.map Cel.c)), (7, .map 0), (10, .int .i64 b.length), (66, .view (l.map Cel.c)), (67, .int .i64 l.length), (68, .int .i64 i), (73, .view (a.After.map Cel.c)), (74, .int .i64 a.After.length), (75, .int .i64 j)], [.imap (m.map ie)]⟩)
                (fun r => ∀ x ∈ r, x ∈ a.After) (by simp) (by simp) (fun _ h => h) (fun j n r2 hj hn hG2 => ?_) fun _ => ?_
              · have hnn := hall n (g.there a hai n (hG2 n (by simp)))
                simp [hj, hn, hnn]
                exact ⟨by omega, fun x hx => hG2 x (List.mem_cons_of_mem _ hx)⟩
              · simp
                exact ⟨by omega, hG'⟩
            · have h1 : 0 < l.length := List.length_pos_iff.2 g.some_
              have h2 := g.room_
              simp [hb, h1, h2]
              omega
      · simp [ic_l23_BatchFull, rs_l23_BatchFull, cr23_Few, cR22Few, cbCheck, cAlive23, hk0, hl0, hk1, hk2, hl1, hl3, hk3, hc]
    · have hl' : ¬ (l.length ≤ 30 ∧ ∀ x ∈ l, x.After.length ≤ 20) := by simpa using hl
      simp [ic_l23_BatchFull, rs_l23_BatchFull, cr23_Few, cR22Few, cbCheck, cAlive23, hk0, hl0, hk.1, hk.2]
      exact ⟨fun h1 h2 => absurd ⟨h1, h2⟩ hl', fun h1 h2 => absurd ⟨h1, h2⟩ hl'⟩
  · simp [ic_l23_BatchFull, rs_l23_BatchFull, cr23_Few, cR22Few, cbCheck, cAlive23, hk0, hl0]
    exact ⟨fun h1 h2 => absurd ⟨h1, h2⟩ hk, fun h1 h2 => absurd ⟨h1, h2⟩ hk⟩
end Go.Proofs.Ytaimhgmakgbfaaa.Sx
