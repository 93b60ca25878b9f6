/- The laws PlanRoutes and PlanBack. No conditions: a kit of our own. -/
import Derived.Test.YtjpgnicgapkndaaFnG2
import Derived.Test.YtjpgnicgapkndaaFnPl1
namespace Go.Proofs.Ytjpgnicgapkndaa.Sx
open Go Go.RowKit
set_option linter.unusedVariables false
set_option linter.unusedSimpArgs false

theorem far_clip (n : Int) : clipI n (-1048576) 1048576 = farI n := by unfold clipI farI; split <;> (try split) <;> omega
section
attribute [local irreducible] farI
theorem det_r03_part (n : Int) : Det Try.prog 62 [en n] [] (en (farI n)) [] := by
  refine det_finF mixed0 (knows_cons known_r02_Clip knows_nil) ok_r03_part 1 (by simp) ?_
  rw [← far_clip]
  simp [ic_r03_part, rs_r03_part, cClip2]
def cPart : Ctr := C1 (fun n : Int => True) fun n => en (farI n)
theorem known_r03_part : Known Try.prog 62 cPart := known_C1 (fun n _ => det_r03_part n) fun n => flat_int _ _
theorem det_r03_Fix (p : Pt) : Det Try.prog 49 [en p] [] (en (farP p)) [] := by
  refine det_finF mixed0 (knows_cons known_r03_part knows_nil) ok_r03_Fix 2 (by simp) ?_
  simp [ic_r03_Fix, rs_r03_Fix, cPart, farP, vcLoose, heapsOf]
theorem known_r03_Fix : Known Try.prog 49 cGFix := known_V1 (fun p _ => det_r03_Fix p) fun p _ => closed_en _
theorem det_r03_size (n : Int) (h : -1048576 ≤ n ∧ n ≤ 1048576) : Det Try.prog 50 [en n] [] (en (absI n)) [] := by
  refine det_finF mixed0 knows_nil ok_r03_size 1 (by simp) ?_
  simp [ic_r03_size, rs_r03_size, absI]
  omega
def cSize : Ctr := C1 (fun n : Int => -1048576 ≤ n ∧ n ≤ 1048576) fun n => en (absI n)
theorem known_r03_size : Known Try.prog 50 cSize := known_C1 (fun n h => det_r03_size n h) fun n => flat_int _ _
theorem det_r03_Steps (p : Pt) : Det Try.prog 28 [en p] [] (en (stepsP p)) [] := by
  refine det_finF mixed0 (knows_cons known_r03_Fix (knows_cons known_r03_size knows_nil)) ok_r03_Steps 1 (by simp) ?_
  have hx := farI_le p.X
  have hy := farI_le p.Y
  simp [ic_r03_Steps, rs_r03_Steps, cGFix, farP, cSize, stepsP, vcLoose, heapsOf, hx, hy]
  unfold absI
  omega
theorem known_r03_Steps : Known Try.prog 28 cGSteps := known_C1 (fun p _ => det_r03_Steps p) fun p => flat_int _ _
end
theorem det_r05_Points (xs ys : List Pt) (hl : xs.length ≤ 9223372036854775807) : Det Try.prog 15 [en xs, en ys] [] (.bool (decide (xs = ys))) [] := by
  refine det_finF mixed0 knows_nil ok_r05_Points 1 (by simp) ?_
  simp [ic_r05_Points, rs_r05_Points]
  refine ⟨fun h e => h (by rw [e]), fun hlen => ?_⟩
  refine LoopC.scanB Pt.zero xs (fun i (_ : Unit) => ⟨[(0, .view (xs.map Cel.c)), (1, .view (ys.map Cel.c)), (5, .int .i64 i)], []⟩) (fun i _ r => xs = ys ↔ r = ys.drop i) () (by simp) (by simp) (by simp) (fun i a r b hi ha hd hG => ?_) fun b hG => ?_
  · have hi' : i < ys.length := by omega
    have hy := drop_nth Pt.zero hi'
    rw [hy] at hG
    by_cases e : a = nth ys i Pt.zero
    · simp [hi, hi', ha, vcLoose, e]
      refine ⟨by omega, ?_⟩
      rw [hG, e]; simp
    · have e3 : ¬ xs = ys := fun h => by rw [hG] at h; simp at h; exact e h.1
      simp [hi, hi', ha, vcLoose, e3]
      rw [ext_Pt] at e
      grind
  · simp
    rw [hG, List.drop_of_length_le (by omega)]
def cPoints : Ctr := C2 (fun xs ys : List Pt => xs.length ≤ 9223372036854775807) fun xs ys => .bool (decide (xs = ys))
theorem known_r05_Points : Known Try.prog 15 cPoints := known_C2 (fun l n h => det_r05_Points l n h) fun l n => flat_bool _
attribute [local irreducible] wayL crossL in
theorem det_PlanRoutes (l : List Ais) (wl : Rd.wf l) (p : Pt) (wp : Rd.wf p) (q : Pt) (wq : Rd.wf q) (how : Int) (wh : Rd.wf how) : Det Try.prog 4 [en l, en p, en q, en how] [] (.bool true) [] := by
  refine det_finF mixed0 (knows_cons known_07alive (knows_cons known_Route (knows_cons known_r07_Route (knows_cons known_r05_Points (knows_cons known_Cross (knows_cons known_r07_Cross (knows_cons known_Ints knows_nil))))))) ok_l07_PlanRoutes 1 (by simp) ?_
  have hW := wayL_len (how := how) (inW_near p) (inW_near q)
  have hW' : (wayL how (nearP p) (nearP q)).length ≤ 9223372036854775807 := by omega
  have hC := crossL_len l p q how
  by_cases hl : l.length ≤ 40
  · have h1 : ¬ 40 < l.length := by omega
    have h2 : l.length ≤ 1073741824 := by omega
    have h3 : l.length ≤ 1000 := by omega
    have h4 : (crossL l p q how).length ≤ 9223372036854775807 := by omega
    simp [ic_l07_PlanRoutes, rs_l07_PlanRoutes, c07Alive, cRoute, cPoints, cCross, cInts, vcLoose, heapsOf, h1, h2, h3, h4, hW']
  · have h1 : 40 < l.length := by omega
    have h1' : ¬ l.length ≤ 40 := by omega
    simp [ic_l07_PlanRoutes, rs_l07_PlanRoutes, c07Alive, vcLoose, heapsOf, h1, h1']
/-! ### of a plan -/
theorem planG_spec : ∀ (r : List Ais) (last : Int) (pre : List Ais), planG last pre r = true → (∀ a ∈ r, last < a.ID ∧ (small a.Low 1000 = true ∧ small a.High 1000 = true ∧ a.Low.X ≤ a.High.X ∧ a.Low.Y ≤ a.High.Y ∧ a.ID ≤ 999) ∧ ∀ b ∈ pre, meets a b = false) ∧ r.Pairwise (fun a b => a.ID < b.ID ∧ meets b a = false)
  | [], _, _, _ => ⟨fun a h => by simp at h, .nil⟩
  | a :: r, last, pre, h => by
    simp only [planG, Bool.and_eq_true] at h
    obtain ⟨h1, h2⟩ := h
    simp only [aisOk, Bool.and_eq_true, decide_eq_true_eq, Bool.not_eq_true', List.any_eq_false, Bool.not_eq_true] at h1
    obtain ⟨i1, i2⟩ := planG_spec r _ _ h2
    refine ⟨fun b hb => ?_, ?_⟩
    · rcases List.mem_cons.1 hb with rfl | hb
      · exact ⟨h1.1.1.1.1.1.1, ⟨h1.1.1.1.1.2, h1.1.1.1.2, h1.1.1.2, h1.1.2, h1.1.1.1.1.1.2⟩, fun c hc => by simpa using h1.2 c hc⟩
      · obtain ⟨j1, j2, j3⟩ := i1 b hb
        exact ⟨by have := h1.1.1.1.1.1.1; omega, j2, fun c hc => j3 c (by simp [hc])⟩
    · exact List.pairwise_cons.2 ⟨fun b hb => ⟨(i1 b hb).1, (i1 b hb).2.2 a (by simp)⟩, i2⟩
theorem pair_tri {α : Type} {R : α → α → Prop} : ∀ {l : List α}, l.Pairwise R → ∀ {a b : α}, a ∈ l → b ∈ l → a = b ∨ R a b ∨ R b a
  | [], _, a, b, ha, hb => by simp at ha
  | x :: l, h, a, b, ha, hb => by
    obtain ⟨h1, h2⟩ := List.pairwise_cons.1 h
    rcases List.mem_cons.1 ha with e1 | e1 <;> rcases List.mem_cons.1 hb with e2 | e2
    · exact .inl (e1.trans e2.symm)
    · rw [e1]; exact .inr (.inl (h1 b e2))
    · rw [e2]; exact .inr (.inr (h1 a e1))
    · exact pair_tri h2 e1 e2
theorem plan_one {l : List Ais} (h : planOk l = true) {a b : Ais} (ha : a ∈ l) (hb : b ∈ l) {c : Pt} (h1 : hasP a c = true) (h2 : hasP b c = true) : a = b := by
  simp only [planOk, Bool.and_eq_true] at h
  have hp := (planG_spec l 0 [] h.2).2
  have hm : meets a b = true := (meets_iff (.inr trivial)).2 ⟨c, h1, h2⟩
  rcases pair_tri hp ha hb with e | e | e
  · exact e
  · rw [meets_comm, hm] at e; cases e.2
  · rw [hm] at e; cases e.2
theorem plan_id {l : List Ais} (h : planOk l = true) {a b : Ais} (ha : a ∈ l) (hb : b ∈ l) (he : a.ID = b.ID) : a = b := by
  simp only [planOk, Bool.and_eq_true] at h
  have hp := (planG_spec l 0 [] h.2).2
  rcases pair_tri hp ha hb with e | e | e
  · exact e
  · omega
  · omega
theorem at_iff {l : List Ais} (h : planOk l = true) {a : Ais} (ha : a ∈ l) (c : Pt) : ((atL l c).2 && decide ((atL l c).1 = a.ID)) = hasP a c := by
  unfold atL
  cases hf : l.find? fun b => hasP b c with
  | none =>
    rw [List.find?_eq_none] at hf
    have := hf a ha
    simp only [Bool.not_eq_true] at this
    simp [this]
  | some b =>
    have hb := List.mem_of_find?_eq_some hf
    have hc : hasP b c = true := by simpa using List.find?_some hf
    simp only [Bool.true_and]
    by_cases e : b = a
    · subst e; simp [hc]
    · have h1 : ¬ b.ID = a.ID := fun e2 => e (plan_id h hb ha e2)
      have h2 : hasP a c = false := by
        cases h3 : hasP a c
        · rfl
        · exact absurd (plan_one h hb ha hc h3) e
      simp [h1, h2]
theorem cross_id {l : List Ais} (h : planOk l = true) {a : Ais} (ha : a ∈ l) (p q : Pt) (how : Int) : decide (a.ID ∈ crossL l p q how) = through p q how a := by
  rw [Bool.eq_iff_iff, decide_eq_true_eq, mem_crossL]
  constructor
  · rintro ⟨b, h1, h2, h3⟩
    rw [plan_id h ha h1 h3.symm]; exact h2
  · intro h1; exact ⟨a, ha, h1, rfl⟩
theorem meets_flip (x : Ais) (a b : Pt) : meets x (blockP a b) = meets x (blockP b a) := by
  have e : blockP a b = blockP b a := by
    simp only [blockP]
    rw [Int.min_comm a.X b.X, Int.min_comm a.Y b.Y, Int.max_comm a.X b.X, Int.max_comm a.Y b.Y]
  rw [e]
theorem through_back (p q : Pt) (x : Ais) : through q p 1 x = through p q 0 x := by
  have e : bendP (nearP q) (nearP p) 1 = bendP (nearP p) (nearP q) 0 := by simp [bendP]
  simp only [through, e]
  rw [meets_flip x (nearP q), meets_flip x _ (nearP p), Bool.or_comm]
theorem cross_back (l : List Ais) (p q : Pt) : crossL l q p 1 = crossL l p q 0 := by
  simp only [crossL, crossI]
  have : through q p 1 = through p q 0 := funext fun x => through_back p q x
  rw [this]
theorem wayT_length (how : Int) : ∀ (n : Nat) (a b : Pt), n = distP a b → (wayT how n a b).length = n
  | 0, _, _, _ => rfl
  | n + 1, a, b, h => by
    have hne : ¬ a = b := fun e => by subst e; simp [distP] at h
    have hs := step_dist (how := how) hne
    rw [wayT, if_neg hne, List.length_cons, wayT_length how n _ b (by omega)]
theorem wayT_last (how : Int) : ∀ (n : Nat) (a b : Pt), n = distP a b → nth (a :: wayT how n a b) n Pt.zero = b
  | 0, a, b, h => by
    have := dist_0 h.symm
    subst this; rfl
  | n + 1, a, b, h => by
    have hne : ¬ a = b := fun e => by subst e; simp [distP] at h
    have hs := step_dist (how := how) hne
    have := wayT_last how n (stepP how a b) b (by omega)
    rw [wayT, if_neg hne]
    simpa [nth] using this
theorem small_in {p : Pt} (h : small p 200 = true) : (-200 ≤ p.X ∧ p.X ≤ 200) ∧ -200 ≤ p.Y ∧ p.Y ≤ 200 := by
  simp [small] at h; omega
theorem small_200 {p : Pt} (h : small p 200 = true) : nearP p = p := by
  have := small_in h
  simp only [nearP, ext_Pt]; omega
attribute [local irreducible] wayL crossL atL planOk small stepsP
set_option maxRecDepth 40000 in
set_option maxHeartbeats 8000000 in
theorem det_PlanBack (l : List Ais) (wl : Rd.wf l) (p : Pt) (wp : Rd.wf p) (q : Pt) (wq : Rd.wf q) : Det Try.prog 7 [en l, en p, en q] [] (.bool true) [] := by
  refine det_finF mixed0 (knows_cons known_07alive (knows_cons known_r07_Right (knows_cons known_Small (knows_cons known_Route (knows_cons known_Cross (knows_cons known_Ints (knows_cons known_r03_Steps (knows_cons known_PlanAt knows_nil)))))))) ok_l07_PlanBack 1 (by simp) ?_
  have hl : l.length ≤ 9223372036854775807 := by simp at wl; omega
  clear wl
  by_cases hg : planOk l = true ∧ small p 200 = true ∧ small q 200 = true
  · obtain ⟨g1, g2, g3⟩ := hg
    have hl32 : l.length ≤ 32 := by
      have := g1
      unfold planOk at this
      simp at this; exact this.1
    have hl2 : l.length ≤ 1073741824 := by omega
    have ip := small_in g2
    have iq := small_in g3
    have hC := crossL_len l p q 0
    have hC' : (crossL l p q 0).length ≤ 9223372036854775807 := by omega
    have hT : ∀ a ∈ l, decide (a.ID ∈ crossL l p q 0) = (wayL 0 p q).any (fun x => (atL l x).2 && decide ((atL l x).1 = a.ID)) := fun a ha => by
      rw [cross_id g1 ha, ← way_through, small_200 g2, small_200 g3]
      congr 1
      funext x
      exact (at_iff g1 ha x).symm
    have hlen : (wayL 0 p q).length = 1 + distP p q := by
      unfold wayL; rw [List.length_cons, wayT_length 0 _ _ _ rfl]; omega
    have hfst : nth (wayL 0 p q) 0 Pt.zero = p := by unfold wayL; rfl
    have hlst : nth (wayL 0 p q) (distP p q) Pt.zero = q := by unfold wayL; exact wayT_last 0 _ _ _ rfl
    have hst : stepsP ⟨q.X - p.X, q.Y - p.Y⟩ = (distP p q : Int) := by
      unfold stepsP
      simp only [farI_in (show -1048576 ≤ q.X - p.X by omega) (by omega), farI_in (show -1048576 ≤ q.Y - p.Y by omega) (by omega), absI, distP]
      omega
    have hd : distP p q ≤ 800 := by simp only [distP]; omega
    simp [ic_l07_PlanBack, rs_l07_PlanBack, c07Alive, cPlanRight, cSmall, cRoute, cCross, cInts, cGSteps, hl, hl2, g1, g2, g3, small_200 g2, small_200 g3, cross_back, hC', hst, hlen, hfst, vcLoose, heapsOf]
    have ei : (1 + (distP p q : Int)).toNat - 1 = distP p q := by omega
    simp only [ei, hlst]
    refine ⟨by omega, by omega, by omega, by omega, by omega, ⟨by omega, by omega⟩, ⟨trivial, trivial⟩, fun _ _ => ?_⟩
    have hWl : (wayL 0 p q).length ≤ 1000 := by omega
    generalize wayL 0 p q = W at *
    generalize crossL l p q 0 = C at *
    refine LoopC.scanB Ais.zero l (fun i (_ : Unit) => ⟨[(0, .view (l.map Cel.c)), (7, .view (W.map Cel.c)), (8, .view (C.map Cel.c)), (82, .view (l.map Cel.c)), (83, .int .i64 l.length), (84, .int .i64 i)], []⟩) (fun i _ _ => True) () (by simp) (by simp) trivial (fun i a rest _ hi ha hd _ => ?_) fun _ _ => ?_
    · have ham : a ∈ l := by rw [← ha, nth_get hi]; exact List.getElem_mem hi
      have hTa := hT a ham
      have hC2 : decide (a.ID ∈ C) = C.any (fun n => decide (n = a.ID)) := by
        rw [Bool.eq_iff_iff]; simp
      generalize hTT : decide (a.ID ∈ C) = T at *
      simp [hi, ha]
      refine LoopC.scanB Pt.zero W (fun k (t : Bool) => ⟨[(0, .view (l.map Cel.c)), (7, .view (W.map Cel.c)), (8, .view (C.map Cel.c)), (10, .ptr 0 0 0), (11, .bool t), (82, .view (l.map Cel.c)), (83, .int .i64 l.length), (84, .int .i64 i), (88, .view (W.map Cel.c)), (89, .int .i64 W.length), (90, .int .i64 k)], [.rows 5 [Cel.c a]]⟩) (fun k t r => T = (t || r.any (fun x => (atL l x).2 && decide ((atL l x).1 = a.ID)))) false (by simp) (by simp) (by simpa using hTa) (fun k x r t hk hx hdk hG => ?_) fun t hG => ?_
      · rw [List.any_cons] at hG
        cases hat : atL l x with
        | mk n is =>
          rw [hat] at hG
          simp only at hG
          cases t
          · cases is
            · simp at hG
              simp [hi, hk, hx, cPlanAt, hl, hat, vcLoose, heapsOf]
              exact ⟨by omega, hG⟩
            · simp [hi, hk, hx, cPlanAt, hl, hat, vcLoose, heapsOf]
              refine ⟨by omega, ?_⟩
              by_cases e : n = a.ID
              · exact .inr ⟨e, by simpa [e] using hG⟩
              · exact .inl ⟨e, by simpa [e] using hG⟩
          · simp at hG
            simp [hi, hk, hx, cPlanAt, hl, hat, vcLoose, heapsOf, hG]
            omega
      · simp only [List.any_nil, Bool.or_false] at hG
        rw [← hG]
        simp
        refine LoopC.scanB (0 : Int) C (fun k (u : Bool) => ⟨[(0, .view (l.map Cel.c)), (7, .view (W.map Cel.c)), (8, .view (C.map Cel.c)), (10, .ptr 0 0 0), (11, .bool T), (16, .bool u), (82, .view (l.map Cel.c)), (83, .int .i64 l.length), (84, .int .i64 i), (111, .view (C.map Cel.c)), (112, .int .i64 C.length), (113, .int .i64 k)], [.rows 5 [Cel.c a]]⟩) (fun k u r => T = (u || r.any (fun n => decide (n = a.ID)))) false (by simp) (by simp) (by simpa using hC2) (fun k n r u hk hn hdk hG => ?_) fun u hG => ?_
        · rw [List.any_cons] at hG
          simp [hi, hk, hn, vcLoose, heapsOf]
          refine ⟨by omega, ?_⟩
          cases u
          · by_cases e : n = a.ID
            · exact .inr ⟨.inr e, by simpa [e] using hG⟩
            · exact .inl ⟨⟨rfl, e⟩, by simpa [e] using hG⟩
          · exact .inr ⟨.inl rfl, by simpa using hG⟩
        · simp only [List.any_nil, Bool.or_false] at hG
          rw [← hG]
          simp [hi]
          omega
    · simp [c07Alive]
  · simp [ic_l07_PlanBack, rs_l07_PlanBack, c07Alive, cPlanRight, cSmall, hl, vcLoose, heapsOf]
    exact fun a b c => absurd ⟨a, b, c⟩ hg
end Go.Proofs.Ytjpgnicgapkndaa.Sx
