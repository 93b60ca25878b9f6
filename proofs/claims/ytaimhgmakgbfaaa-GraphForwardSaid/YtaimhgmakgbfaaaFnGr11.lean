/- The law GraphForward. No conditions: a kit of our own. -/
import Derived.Test.YtaimhgmakgbfaaaFnGr10
namespace Go.Proofs.Ytaimhgmakgbfaaa.Sx
open Go Go.RowKit
open Hp (mget mput mdel HpS)
set_option linter.unusedVariables false
set_option linter.unusedSimpArgs false

/-! ### where a number stands -/
def plG (n : Int) : Nat → List Int → Int
  | _, [] => -1
  | i, x :: r => if x = n then (i : Int) else plG n (i + 1) r
def pl (l : List Int) (n : Int) : Int := plG n 0 l
theorem plG_spec (n : Int) : ∀ (l : List Int) (i : Nat), (n ∉ l ∧ plG n i l = -1) ∨ ∃ k, k < l.length ∧ nth l k 0 = n ∧ (∀ j, j < k → nth l j 0 ≠ n) ∧ plG n i l = ((i + k : Nat) : Int)
  | [], i => .inl ⟨by simp, rfl⟩
  | x :: l, i => by
    by_cases h : x = n
    · exact .inr ⟨0, by simp, by simp [nth, h], fun j hj => absurd hj (Nat.not_lt_zero _), by simp [plG, h]⟩
    · rcases plG_spec n l (i + 1) with ⟨h1, h2⟩ | ⟨k, h1, h2, h3, h4⟩
      · exact .inl ⟨by simp [h1]; exact fun e => h e.symm, by simp [plG, h, h2]⟩
      · refine .inr ⟨k + 1, by simp; omega, by simpa [nth] using h2, fun j hj => ?_, ?_⟩
        · cases j with
          | zero => simpa [nth] using h
          | succ j => have := h3 j (by omega); simpa [nth] using this
        · simp only [plG, h, if_false, h4]; omega
theorem pl_not {l : List Int} {n : Int} (h : n ∉ l) : pl l n = -1 := by
  rcases plG_spec n l 0 with ⟨_, h2⟩ | ⟨k, h1, h2, _⟩
  · exact h2
  · exact absurd (by rw [← h2, nth_get h1]; exact List.getElem_mem _) h
theorem pl_in {l : List Int} {n : Int} (h : n ∈ l) : ∃ k, k < l.length ∧ nth l k 0 = n ∧ pl l n = (k : Int) := by
  rcases plG_spec n l 0 with ⟨h1, _⟩ | ⟨k, h1, h2, _, h4⟩
  · exact absurd h h1
  · exact ⟨k, h1, h2, by rw [pl, h4]; simp⟩
theorem nd_inj {l : List Int} (h : l.Nodup) {i j : Nat} (hi : i < l.length) (hj : j < l.length) (e : nth l i 0 = nth l j 0) : i = j := by
  rw [nth_get hi, nth_get hj] at e
  exact (List.getElem_inj h).1 e
theorem det_place16 (l : List Int) (n : Int) (hl : l.length ≤ 1073741823) : Det Try.prog 30 [en l, en n] [] (.int .i64 (pl l n)) [] := by
  refine det_finF mixed0 knows_nil ok_l16_place 1 (by simp) ?_
  simp [ic_l16_place, rs_l16_place]
  refine LoopC.scanB (0 : Int) l (fun i (_ : Unit) => ⟨[(1, .int .i64 n), (7, .view (l.map Cel.c)), (8, .int .i64 l.length), (9, .int .i64 i)], []⟩) (fun i _ r => plG n i r = pl l n) () (by simp) (by simp) rfl (fun i a r _ hi ha hd hG => ?_) fun _ hG => ?_
  · simp only [plG] at hG
    by_cases h : a = n
    · simp only [h, if_true] at hG
      simp [hi, ha, h]
      exact hG
    · simp only [h, if_false] at hG
      simp [hi, ha, h]
      exact ⟨by omega, hG⟩
  · simp only [plG] at hG
    simp [← hG]
def cPlace16 : Ctr := C2 (fun (l : List Int) (n : Int) => l.length ≤ 1073741823) fun l n => .int .i64 (pl l n)
theorem known_Place16 : Known Try.prog 30 cPlace16 := known_C2 (fun l n h => det_place16 l n h) fun l n => flat_int _ _

/-! ### what is told, one by one -/
theorem seq_may (N : List Int) (A : List Arc) : ∀ (k : Nat) (told : List Int) (j : Nat), j < (Gr.seqO N A k told).length → Gr.may N A (told ++ (Gr.seqO N A k told).take j) (nth (Gr.seqO N A k told) j 0) = true
  | 0, told, j, hj => by simp [Gr.seqO] at hj
  | k + 1, told, j, hj => by
    simp only [Gr.seqO] at hj ⊢
    cases h : Gr.avail N A told with
    | none => rw [h] at hj; simp at hj
    | some n =>
      rw [h] at hj
      simp only at hj ⊢
      cases j with
      | zero =>
        have := List.find?_some h
        simpa [nth] using this
      | succ j =>
        have := seq_may N A k (told ++ [n]) j (by simpa using hj)
        simpa [nth] using this
theorem told_pre {N : List Int} {A : List Arc} {j : Nat} (hj : j < (toldO N A).length) {a : Arc} (ha : a ∈ A) (h1 : a.To = nth (toldO N A) j 0) (h2 : a.From ∈ N) : ∃ i, i < j ∧ nth (toldO N A) i 0 = a.From := by
  have := seq_may N A N.length [] j hj
  rw [List.nil_append] at this
  have hf := Gr.free_iff.1 (Gr.may_iff.1 this).2 a ha h1 h2
  obtain ⟨i, hi, e⟩ := List.mem_iff_getElem.1 hf
  simp at hi
  have hi2 : i < (toldO N A).length := by unfold toldO; omega
  refine ⟨i, by omega, ?_⟩
  rw [nth_get hi2]
  rw [← e]
  simp [toldO]
theorem levR_ge {A : List Arc} {done : List (Int × Int)} {d : Int × Int} {a : Arc} {n : Int} (hd : d ∈ done) (ha : a ∈ A) (h1 : a.From = d.1) (h2 : a.To = n) : d.2 + 1 ≤ Gr.levR A done n := by
  have mono : ∀ (l : List (Int × Int)) (v : Int), v ≤ l.foldl (fun v d => A.foldl (fun v a => if a.From = d.1 ∧ a.To = n then max v (d.2 + 1) else v) v) v := fun l => by
    induction l with
    | nil => intro v; exact Int.le_refl _
    | cons x l ih =>
      intro v
      simp only [List.foldl_cons]
      rw [Gr.fold_max]
      refine Int.le_trans ?_ (ih _)
      split <;> omega
  have key : ∀ (l : List (Int × Int)) (v : Int), d ∈ l → d.2 + 1 ≤ l.foldl (fun v d => A.foldl (fun v a => if a.From = d.1 ∧ a.To = n then max v (d.2 + 1) else v) v) v := fun l => by
    induction l with
    | nil => intro v h; simp at h
    | cons x l ih =>
      intro v h
      simp only [List.foldl_cons]
      rcases List.mem_cons.1 h with rfl | h
      · refine Int.le_trans ?_ (mono l _)
        rw [Gr.fold_max, if_pos ⟨a, ha, h1, h2⟩]
        omega
      · exact ih _ h
  exact key done 0 hd
theorem lkF_at {done : List (Int × Int)} (hn : (done.map (·.1)).Nodup) {d : Int × Int} (hd : d ∈ done) : lkF done d.1 = d.2 := by
  have stay : ∀ (l : List (Int × Int)) (v : Int), d.1 ∉ l.map (·.1) → l.foldl (fun v e => if e.1 = d.1 then e.2 else v) v = v := fun l => by
    induction l with
    | nil => intro v _; rfl
    | cons x l ih =>
      intro v h
      simp only [List.map_cons, List.mem_cons, not_or] at h
      simp only [List.foldl_cons]
      rw [if_neg (fun e => h.1 e.symm)]
      exact ih v h.2
  have key : ∀ (l : List (Int × Int)) (v : Int), (l.map (·.1)).Nodup → d ∈ l → l.foldl (fun v e => if e.1 = d.1 then e.2 else v) v = d.2 := fun l => by
    induction l with
    | nil => intro v _ h; simp at h
    | cons x l ih =>
      intro v hn h
      simp only [List.map_cons, List.nodup_cons] at hn
      simp only [List.foldl_cons]
      rcases List.mem_cons.1 h with rfl | h
      · rw [if_pos rfl]; exact stay l _ hn.1
      · exact ih _ hn.2 h
  exact key done (-1) hn hd
theorem lkF_not {done : List (Int × Int)} {x : Int} (h : x ∉ done.map (·.1)) : lkF done x = -1 := by
  have stay : ∀ (l : List (Int × Int)) (v : Int), x ∉ l.map (·.1) → l.foldl (fun v e => if e.1 = x then e.2 else v) v = v := fun l => by
    induction l with
    | nil => intro v _; rfl
    | cons y l ih =>
      intro v h
      simp only [List.map_cons, List.mem_cons, not_or] at h
      simp only [List.foldl_cons]
      rw [if_neg (fun e => h.1 e.symm)]
      exact ih v h.2
  exact stay done (-1) h
theorem lvl_at {N : List Int} (A : List Arc) (hN : N.Pairwise (· < ·)) {i : Nat} (hi : i < (toldO N A).length) : lvlO N A (nth (toldO N A) i 0) = Gr.levR A ((Gr.doneOf A (toldO N A)).take i) (nth (toldO N A) i 0) ∧ (nth (toldO N A) i 0, lvlO N A (nth (toldO N A) i 0)) = nth (Gr.doneOf A (toldO N A)) i (0, 0) := by
  obtain ⟨s, h1, h2, h3, h4⟩ := told_facts A hN
  have hd := doneOf_nth A (toldO N A) i hi
  have hlen := doneOf_len A (toldO N A)
  have hm : nth (Gr.doneOf A (toldO N A)) i (0, 0) ∈ Gr.doneOf A (toldO N A) := by rw [nth_get (by omega)]; exact List.getElem_mem _
  have hk := lkF_at (by rw [h4]; exact told_nd A hN) hm
  rw [hd] at hk
  simp only at hk
  rw [lvlO_lk, hk]
  exact ⟨rfl, hd.symm⟩
theorem lvl_not {N : List Int} (A : List Arc) (hN : N.Pairwise (· < ·)) {x : Int} (h : x ∉ toldO N A) : lvlO N A x = -1 := by
  obtain ⟨s, h1, h2, h3, h4⟩ := told_facts A hN
  rw [lvlO_lk]
  exact lkF_not (by rw [h4]; exact h)
/-- Of an arrow to one that is told. -/
theorem arc_told {N : List Int} {A : List Arc} (hN : N.Pairwise (· < ·)) {a : Arc} (ha : a ∈ A) (h1 : a.From ∈ N) (h2 : a.To ∈ toldO N A) : a.From ∈ toldO N A ∧ lvlO N A a.From < lvlO N A a.To ∧ 0 ≤ lvlO N A a.To ∧ pl (toldO N A) a.From < pl (toldO N A) a.To := by
  have hnd := told_nd A hN
  obtain ⟨j, hj, e1, e2⟩ := pl_in h2
  obtain ⟨i, hi, e3⟩ := told_pre hj ha e1.symm h1
  have hm : a.From ∈ toldO N A := by rw [← e3, nth_get (by omega)]; exact List.getElem_mem _
  obtain ⟨i', hi', e4, e5⟩ := pl_in hm
  have : i' = i := nd_inj hnd hi' (by omega) (by rw [e4, e3])
  subst this
  have l1 := lvl_at A hN hj
  have l2 := lvl_at A hN hi'
  rw [e1] at l1
  rw [e3] at l2
  have hlen := doneOf_len A (toldO N A)
  have hmem : (a.From, lvlO N A a.From) ∈ (Gr.doneOf A (toldO N A)).take j := by
    rw [l2.2, nth_get (by omega), List.mem_take_iff_getElem]
    exact ⟨i', by omega, rfl⟩
  have hge := levR_ge (n := a.To) hmem ha rfl rfl
  rw [← l1.1] at hge
  have hb := doneOf_bound A (toldO N A) [] (by simp) (a.To, lvlO N A a.To) (by
    rw [l1.2, nth_get (by omega)]; exact List.getElem_mem _)
  refine ⟨hm, by simp only at hge; omega, hb.1, by rw [e2, e5]; omega⟩
theorem mem_left {N : List Int} {A : List Arc} {n : Int} : n ∈ leftO N A ↔ n ∈ N ∧ n ∉ toldO N A := by simp [leftO]
theorem told_left {N : List Int} (A : List Arc) (hN : N.Pairwise (· < ·)) : (toldO N A).length + (leftO N A).length = N.length := by
  have hnd : N.Nodup := hN.imp fun h => by omega
  have h1 : (leftO N A).Nodup := hnd.sublist List.filter_sublist
  have h2 : (toldO N A ++ leftO N A).Nodup := by
    rw [List.nodup_append]
    exact ⟨told_nd A hN, h1, fun a ha b hb e => (mem_left.1 hb).2 (e ▸ ha)⟩
  have h3 := Gr.nodup_len h2 (N := N) fun x hx => by
    rcases List.mem_append.1 hx with h | h
    · exact told_sub A hN x h
    · exact (mem_left.1 h).1
  have h4 := Gr.nodup_len hnd (N := toldO N A ++ leftO N A) fun x hx => by
    by_cases h : x ∈ toldO N A
    · exact List.mem_append_left _ h
    · exact List.mem_append_right _ (mem_left.2 ⟨hx, h⟩)
  simp at h3 h4; omega
theorem left_arc {N : List Int} {A : List Arc} (hN : N.Pairwise (· < ·)) {n : Int} (hn : n ∈ leftO N A) : ∃ a ∈ A, a.To = n ∧ a.From ∈ leftO N A := by
  obtain ⟨h1, h2⟩ := mem_left.1 hn
  have hav := (told_end A hN).1
  have := List.find?_eq_none.1 hav n h1
  have hnf : ¬ Gr.freeL N A (toldO N A) n = true := fun h => this (Gr.may_iff.2 ⟨h2, h⟩)
  rw [Gr.free_iff] at hnf
  simp only [Classical.not_forall] at hnf
  obtain ⟨a, ha, e1, e2, e3⟩ := hnf
  exact ⟨a, ha, e1, mem_left.2 ⟨e2, e3⟩⟩
theorem reach_again {N : List Int} (A : List Arc) (F : List Int) (hN : N.Pairwise (· < ·)) : reachO N A (reachO N A F) = reachO N A F := by
  have hnd : N.Nodup := hN.imp fun h => by omega
  have hm : ∀ F x, x ∈ reachO N A F ↔ Gr.Rch N A F x := fun F x => by unfold reachO; rw [mem_setL, Gr.rnds_mem hnd]
  refine rise_ext (rise_setL _) (rise_setL _) fun x => ?_
  show x ∈ reachO N A (reachO N A F) ↔ x ∈ reachO N A F
  rw [hm, hm, Gr.rch_again (hm F)]
theorem any_take {α : Type} (p : α → Bool) {l : List α} {i : Nat} {a d : α} (hi : i < l.length) (ha : nth l i d = a) : (l.take (i + 1)).any p = ((l.take i).any p || p a) := by
  have e : l.take (i + 1) = l.take i ++ [a] := by
    rw [List.take_add_one, List.getElem?_eq_getElem hi, ← ha, nth_get hi]; rfl
  rw [e, List.any_append]; simp
/-! ### the law -/
set_option maxHeartbeats 8000000 in
theorem det_GraphForward (ids : List Int) (wi : Rd.wf ids) (A : List Arc) (wA : Rd.wf A) (F : List Int) (wF : Rd.wf F) : Det Try.prog 6 [en ids, en A, en F] [] (.bool true) [] := by
  refine det_finF mixed0 (knows_cons known_Few16 (knows_cons known_Alive16 (knows_cons known_R16Set (knows_cons known_gOrder (knows_cons known_gLeft (knows_cons known_gLevels (knows_cons known_Place16 (knows_cons known_gReach (knows_cons known_Ints knows_nil))))))))) ok_l16_GraphForward 1 (by simp) ?_
  by_cases hf : fewG ids A = true
  · have h2 : ids.length ≤ 30 ∧ A.length ≤ 60 := by simpa [fewG] using hf
    obtain ⟨hi, hA⟩ := h2
    by_cases hF : F.length ≤ 30
    · have hF1 : ¬ (30 : Int) < F.length := by omega
      have hl := setL_len ids
      have hN := rise_setL ids
      have a1 : ids.length ≤ 1073741823 := by omega
      have a2 : A.length ≤ 1073741823 := by omega
      have a3 : ids.length ≤ 536870912 := by omega
      have hmu : ∀ F : List Int, F.length ≤ 30 → muR (setL ids) A [] F ≤ 1073741823 := fun F hF => by
        simp only [muR, List.length_nil, Nat.sub_zero]
        have := Nat.mul_le_mul (show (setL ids).length ≤ 30 by omega) (show A.length + 1 ≤ 61 by omega)
        omega
      have b1 := told_left A hN
      have b2 := levels_len (setL ids) A
      have b3 := reach_len A F hN
      have b4 := reach_again A F hN
      have b5 := fun {a : Arc} => @arc_told (setL ids) A hN a
      have b6 := fun {n : Int} => @left_arc (setL ids) A hN n
      have b7 := fun {n : Int} => @mem_left (setL ids) A n
      have b8 := fun {x : Int} => @lvl_not (setL ids) A hN x
      have b9 : ∀ k, k < (setL ids).length → nth (levelsO (setL ids) A) k 0 = lvlO (setL ids) A (nth (setL ids) k 0) := fun k hk => by
        rw [nth_get (by omega), nth_get hk]; simp [levelsO]
      have c1 : F.length ≤ 1073741823 := by omega
      have c2 := hmu F hF
      have c3 := hmu (reachO (setL ids) A F) (by omega)
      have c4 : (reachO (setL ids) A F).length ≤ 1073741823 := by omega
      have c5 : (reachO (setL ids) A F).length ≤ 9223372036854775807 := by omega
      have hlN : (setL ids).length ≤ 30 := by omega
      simp [ic_l16_GraphForward, rs_l16_GraphForward, cFew16, hf, hF, hF1, cAlive16, cR16Set, cgOrder, cgLeft, cgLevels, ordV, a1, a2, a3]
      generalize hlv : lvlO (setL ids) A = lv at *
      generalize hLV : levelsO (setL ids) A = LV at *
      generalize hLF : leftO (setL ids) A = LF at *
      generalize hT : toldO (setL ids) A = T at *
      generalize hNe : setL ids = N at *
      have d1 : T.length ≤ 1073741823 := by omega
      have d2 : LF.length ≤ 1073741823 := by omega
      have d3 : N.length ≤ 1073741823 := by omega
      refine ⟨by omega, ⟨⟨by omega, ⟨fun h => List.length_eq_zero_iff.1 (by omega), fun h => by rw [h] at b1; simpa using b1⟩⟩, b2⟩, fun _ _ _ => ?_⟩
      refine LoopC.scan Arc.zero A (fun i => ⟨[(0, .view (ids.map Cel.c)), (1, .view (A.map Cel.c)), (2, .view (F.map Cel.c)), (7, .view (N.map Cel.c)), (8, .view (T.map Cel.c)), (10, .view (LF.map Cel.c)), (11, .view (LV.map Cel.c)), (68, .view (A.map Cel.c)), (69, .int .i64 A.length), (70, .int .i64 i)], []⟩) (fun r => ∀ x ∈ r, x ∈ A) (by simp) (by simp) (fun x h => h) (fun i a r hi' ha hG => ?_) fun _ => ?_
      · have haA := hG a (by simp)
        have hG' : ∀ x ∈ r, x ∈ A := fun x hx => hG x (List.mem_cons_of_mem _ hx)
        by_cases f1 : a.From ∈ N
        · obtain ⟨i0, e1, e2, e3⟩ := pl_in f1
          by_cases f2 : a.To ∈ N
          · obtain ⟨k0, e4, e5, e6⟩ := pl_in f2
            have e7 := b9 k0 e4
            have e8 := b9 i0 e1
            rw [e5] at e7
            rw [e2] at e8
            have e9 : k0 < LV.length := by omega
            have e10 : i0 < LV.length := by omega
            by_cases f3 : a.To ∈ T
            · obtain ⟨g1, g2, g3, g4⟩ := b5 haA f1 f3
              have g5 : pl LF a.From = -1 := pl_not fun h => (b7.1 h).2 g1
              have g6 : ¬ lv a.To ≤ lv a.From := by omega
              have g7 : ¬ pl T a.To ≤ pl T a.From := by omega
              simp [hi', ha, cPlace16, d1, d2, d3, e3, e6, e7, e8, e9, e10, g5, g3, g6, g7, vcLoose, heapsOf]
              exact ⟨by omega, hG'⟩
            · have g1 := b8 f3
              have g2 : a.To ∈ LF := b7.2 ⟨f2, f3⟩
              obtain ⟨k1, g3, g4, g5⟩ := pl_in g2
              simp [hi', ha, cPlace16, d1, d2, d3, e3, e6, e7, e8, e9, e10, g1, g5, vcLoose, heapsOf]
              exact ⟨by omega, hG'⟩
          · have e4 := pl_not f2
            simp [hi', ha, cPlace16, d1, d2, d3, e3, e4, vcLoose, heapsOf]
            exact ⟨by omega, hG'⟩
        · have e3 := pl_not f1
          simp [hi', ha, cPlace16, d1, d2, d3, e3, vcLoose, heapsOf]
          exact ⟨by omega, hG'⟩
      · simp
        refine LoopC.scan (0 : Int) LF (fun i => ⟨[(0, .view (ids.map Cel.c)), (1, .view (A.map Cel.c)), (2, .view (F.map Cel.c)), (7, .view (N.map Cel.c)), (10, .view (LF.map Cel.c)), (11, .view (LV.map Cel.c)), (130, .view (LF.map Cel.c)), (131, .int .i64 LF.length), (132, .int .i64 i)], []⟩) (fun r => ∀ x ∈ r, x ∈ LF) (by simp) (by simp) (fun x h => h) (fun i n r hi' hn hG => ?_) fun _ => ?_
        · have hnL := hG n (by simp)
          have hG' : ∀ x ∈ r, x ∈ LF := fun x hx => hG x (List.mem_cons_of_mem _ hx)
          obtain ⟨f1, f2⟩ := b7.1 hnL
          obtain ⟨k0, e4, e5, e6⟩ := pl_in f1
          have e7 := b9 k0 e4
          rw [e5, b8 f2] at e7
          have e9 : k0 < LV.length := by omega
          obtain ⟨a0, g1, g2, g3⟩ := b6 hnL
          have hany : A.any (fun a => decide (a.To = n) && decide (a.From ∈ LF)) = true := List.any_eq_true.2 ⟨a0, g1, by simp [g2, g3]⟩
          simp [hi', hn]
          refine LoopC.scan Arc.zero A (fun j => ⟨[(0, .view (ids.map Cel.c)), (1, .view (A.map Cel.c)), (2, .view (F.map Cel.c)), (7, .view (N.map Cel.c)), (10, .view (LF.map Cel.c)), (11, .view (LV.map Cel.c)), (17, .int .i64 n), (18, .bool ((A.take j).any fun a => decide (a.To = n) && decide (a.From ∈ LF))), (130, .view (LF.map Cel.c)), (131, .int .i64 LF.length), (132, .int .i64 i), (136, .view (A.map Cel.c)), (137, .int .i64 A.length), (138, .int .i64 j)], []⟩) (fun r => True) (by simp) (by simp) trivial (fun j a r2 hj ha _ => ?_) fun _ => ?_
          · have ht := any_take (fun a : Arc => decide (a.To = n) && decide (a.From ∈ LF)) hj ha
            rw [ht]
            generalize (A.take j).any (fun a => decide (a.To = n) && decide (a.From ∈ LF)) = is at *
            cases is with
            | true =>
              simp [hj, ha]
              omega
            | false =>
              by_cases q1 : a.To = n
              · by_cases q2 : a.From ∈ LF
                · obtain ⟨k2, q3, q4, q5⟩ := pl_in q2
                  simp [hj, ha, cPlace16, d2, q1, q2, q5]
                  omega
                · have q5 := pl_not q2
                  simp [hj, ha, cPlace16, d2, q1, q2, q5]
                  omega
              · simp [hj, ha, q1]
                omega
          · rw [List.take_length, hany]
            simp [cPlace16, d3, e6, e7, e9]
            exact ⟨by omega, hG'⟩
        · simp [cgReach, cInts, hNe, a1, a2, c1, c2, c3, c4, c5, b4]
    · have hF1 : (30 : Int) < F.length := by omega
      simp [ic_l16_GraphForward, rs_l16_GraphForward, cFew16, hf, hF, hF1, cAlive16]
  · have hf' : fewG ids A = false := by simpa using hf
    simp [ic_l16_GraphForward, rs_l16_GraphForward, cFew16, hf', cAlive16]
end Go.Proofs.Ytaimhgmakgbfaaa.Sx
