/- Motions: the document's answer, and the program's. No conditions: a kit of our own. -/
import Derived.Test.YtjpgnicgapkndaaFnG3
namespace Go.Proofs.Ytjpgnicgapkndaa.Sx
open Go Go.RowKit
set_option linter.unusedVariables false
set_option linter.unusedSimpArgs false

attribute [local irreducible] farI
/-! ### quarters -/
def rotP (k : Int) (a : Pt) : Pt := if k = 1 then ⟨-a.Y, a.X⟩ else if k = 2 then ⟨-a.X, -a.Y⟩ else if k = 3 then ⟨a.Y, -a.X⟩ else a
theorem quar_eq (n : Int) : (if n.tmod 4 < 0 then n.tmod 4 + 4 else n.tmod 4) = n % 4 := by
  have h1 := Int.emod_add_mul_ediv n 4
  have h2 := Int.tmod_add_mul_tdiv n 4
  by_cases h : 0 ≤ n
  · rw [Int.tmod_eq_emod_of_nonneg h]; split <;> omega
  · have e : n.tmod 4 = -((-n) % 4) := by
      rw [← Int.tmod_eq_emod_of_nonneg (by omega : 0 ≤ -n), Int.neg_tmod]; omega
    rw [e]; split <;> omega
theorem det_r03_Quarter (n : Int) : Det Try.prog 75 [en n] [] (en (n % 4)) [] := by
  refine det_finF mixed0 knows_nil ok_r03_Quarter 1 (by simp) ?_
  rw [← quar_eq]
  have h := quar_eq n
  simp [ic_r03_Quarter, rs_r03_Quarter]
  omega
def cQuar : Ctr := C1 (fun n : Int => True) fun n => en (n % 4)
theorem known_r03_Quarter : Known Try.prog 75 cQuar := known_C1 (fun n _ => det_r03_Quarter n) fun n => flat_int _ _
theorem det_r03_Turn (p : Pt) (n : Int) : Det Try.prog 58 [en p, en n] [] (en (rotP (n % 4) (farP p))) [] := by
  refine det_finF mixed0 (knows_cons known_r03_Fix (knows_cons known_r03_Quarter knows_nil)) ok_r03_Turn 2 (by simp) ?_
  have hx := farI_le p.X
  have hy := farI_le p.Y
  simp [ic_r03_Turn, rs_r03_Turn, cGFix, farP, cQuar, vcLoose, heapsOf]
  have key : n % 4 = 0 ∨ n % 4 = 1 ∨ n % 4 = 2 ∨ n % 4 = 3 := by omega
  rcases key with h | h | h | h <;> simp [h, rotP] <;> omega
def cRot : Ctr := V2 (fun (p : Pt) (n : Int) => True) fun p n => en (rotP (n % 4) (farP p))
theorem known_r03_Turn : Known Try.prog 58 cRot := known_V2 (fun p n _ => det_r03_Turn p n) fun p n _ => closed_en _
def addP (p q : Pt) : Pt := ⟨farI p.X + farI q.X, farI p.Y + farI q.Y⟩
theorem det_r03_Add (p q : Pt) : Det Try.prog 57 [en p, en q] [] (en (addP p q)) [] := by
  refine det_finF mixed0 (knows_cons known_r03_Fix knows_nil) ok_r03_Add 2 (by simp) ?_
  have hx := farI_le p.X
  have hy := farI_le p.Y
  have hx' := farI_le q.X
  have hy' := farI_le q.Y
  simp [ic_r03_Add, rs_r03_Add, cGFix, farP, addP, vcLoose, heapsOf]
  omega
def cAddP : Ctr := V2 (fun p q : Pt => True) fun p q => en (addP p q)
theorem known_r03_Add : Known Try.prog 57 cAddP := known_V2 (fun p q _ => det_r03_Add p q) fun p q _ => closed_en _
def doP (m : Mot) (p : Pt) : Pt := addP (rotP (m.Turn % 4) (farP p)) m.By
theorem det_r04_Do (m : Mot) (p : Pt) : Det Try.prog 44 [en m, en p] [] (en (doP m p)) [] := by
  refine det_finF mixed0 (knows_cons known_r03_Turn (knows_cons known_r03_Add knows_nil)) ok_r04_Do 2 (by simp) ?_
  simp [ic_r04_Do, rs_r04_Do, cRot, cAddP, doP, vcLoose, heapsOf]
def cDo : Ctr := V2 (fun (m : Mot) (p : Pt) => True) fun m p => en (doP m p)
theorem known_r04_Do : Known Try.prog 44 cDo := known_V2 (fun m p _ => det_r04_Do m p) fun m p _ => closed_en _
/-! ### the program's -/
def rotN : Nat → Pt → Pt
  | 0, a => a
  | n + 1, a => rotN n ⟨-a.Y, a.X⟩
theorem rotN_rot {n : Nat} (h : n < 4) (a : Pt) : rotN n a = rotP n a := by
  match n, h with
  | 0, _ => simp [rotN, rotP]
  | 1, _ => simp [rotN, rotP]
  | 2, _ => simp [rotN, rotP]
  | 3, _ => simp [rotN, rotP]
theorem f0 : fI 0 = 0 := by rw [fI_eq]; decide
theorem f1 : fI 1 = 4607182418800017408 := by rw [fI_eq]; decide
def bigP (a : Pt) : Prop := (-1048576 ≤ a.X ∧ a.X ≤ 1048576) ∧ -1048576 ≤ a.Y ∧ a.Y ≤ 1048576
theorem and3 (n : Int) : IntKind.i64.wrap (((n % 2 ^ IntKind.i64.bits).toNat &&& 3 % 2 ^ IntKind.i64.bits : Nat) : Int) = n % 4 := by
  have e0 : IntKind.i64.bits = 64 := rfl
  rw [e0]
  have e1 : (3 % 2 ^ 64 : Nat) = 2 ^ 2 - 1 := by decide
  rw [e1, Nat.and_two_pow_sub_one_eq_mod]
  have e2 : (((n % 2 ^ 64).toNat % 2 ^ 2 : Nat) : Int) = n % 4 := by omega
  rw [e2]
  simp [IntKind.wrap, IntKind.signed, IntKind.bits]
  omega
theorem rep_0 : Rep 0 0 := by have := rep_fI (n := 0) (by decide); rwa [f0] at this
theorem rep_1 : Rep 4607182418800017408 1 := by have := rep_fI (n := 1) (by decide); rwa [f1] at this
theorem det_gauss_Turn (p : Pt) (n : Int) : Det Try.prog 59 [en p, en n] [] (en (rotP (n % 4) (farP p))) [] := by
  refine det_finF mixed0 (knows_cons known_GPlane (knows_cons known_GPoint knows_nil)) ok_gauss_Turn 2 (by simp) ?_
  have h3 := and3 n
  obtain ⟨K, hK, hKn⟩ : ∃ k : Nat, k < 4 ∧ (k : Int) = n % 4 := ⟨(n % 4).toNat, by omega, by omega⟩
  rw [← hKn] at h3 ⊢
  rw [← rotN_rot hK]
  have hx := farI_le p.X
  have hy := farI_le p.Y
  simp [ic_gauss_Turn, rs_gauss_Turn]
  refine BackC.genR (fun s : Nat × Pt × Cx => ⟨[(1, .int .i64 s.1), (4, .ptr 0 0 0), (5, .val (.complex .f64 s.2.2.re s.2.2.im))], [.rows 2 [[.int .i64 0, .int .i64 0]]]⟩) (fun s => s.1 < 4 ∧ RepC s.2.2 s.2.1.X s.2.1.Y ∧ bigP s.2.1 ∧ rotN s.1 s.2.1 = rotN K (farP p)) (fun s => s.1) ?_ ?_
  · simp [cGPlane, vcLoose, heapsOf]
    exact ⟨K, farP p, ⟨fI (farI p.X), fI (farI p.Y)⟩, ⟨[1], by simp [atR, h3]⟩, hK, ⟨rep_far p.X, rep_far p.Y⟩, ⟨hx, hy⟩, rfl⟩
  · rintro ⟨k, a, z⟩ ⟨hk, hz, hb, hr⟩
    simp only at hk hz hb hr
    by_cases h0 : k = 0
    · subst h0
      have hok : okZ ⟨z.re, z.im⟩ := ⟨a.X, a.Y, hz, by unfold bigP at hb; omega, by unfold bigP at hb; omega⟩
      have hp : ptZ ⟨z.re, z.im⟩ = a := ptZ_of hz (by unfold bigP at hb; omega) (by unfold bigP at hb; omega)
      rw [← hr, rotN]
      simp [cZPoint, hok, hp]
    · obtain ⟨r, hm, hrr⟩ := repC_mul (w := ⟨0, 4607182418800017408⟩) hz ⟨rep_0, rep_1⟩ (by simp) (by unfold bigP at hb; omega) (by unfold bigP at hb; omega) (by simp) (by unfold bigP at hb; omega) (by unfold bigP at hb; omega)
      simp at hm
      have e1 : a.X * 0 - a.Y * 1 = -a.Y := by omega
      have e2 : a.X * 1 + a.Y * 0 = a.X := by omega
      rw [e1, e2] at hrr
      have h1 : k = k - 1 + 1 := by omega
      have hr2 : rotN (k - 1) ⟨-a.Y, a.X⟩ = rotN K (farP p) := by rw [← hr]; conv => rhs; rw [h1, rotN]
      simp [h0, hm]
      exact ⟨by omega, k - 1, ⟨-a.Y, a.X⟩, r, ⟨[0], by simp [atR]; omega⟩, ⟨by omega, hrr, by unfold bigP at *; simp only []; omega, hr2⟩, by omega⟩
theorem known_gauss_Turn : Known Try.prog 59 cRot := known_V2 (fun p n _ => det_gauss_Turn p n) fun p n _ => closed_en _
theorem det_motion_plane (p : Pt) : Det Try.prog 47 [en p] [] (en (⟨fI p.X, fI p.Y⟩ : Cx)) [] := by
  refine det_finF mixed0 knows_nil ok_motion_plane 1 (by simp) ?_
  simp [ic_motion_plane, rs_motion_plane]
/-- .. -/ noncomputable def cMPlane : Ctr := V1 (fun p : Pt => True) fun p => en (⟨fI p.X, fI p.Y⟩ : Cx)
theorem known_MPlane : Known Try.prog 47 cMPlane := known_V1 (fun p _ => det_motion_plane p) fun p _ => closed_en _
theorem det_motion_point (z : Cx) (hz : okZ z) : Det Try.prog 46 [en z] [] (en (ptZ z)) [] := by
  refine det_finF mixed0 knows_nil ok_motion_point 2 (by simp) ?_
  obtain ⟨h1, h2⟩ := okZ_to hz
  simp [ic_motion_point, rs_motion_point, h1, h2]
theorem known_MPoint : Known Try.prog 46 cZPoint := known_V1 (fun z h => det_motion_point z h) fun z _ => closed_en _
/-- A move: what it turns by, what it adds. -/ noncomputable def mvOf (m : Mot) : AV := .agg [.val (.complex .f64 (fI (rotP (m.Turn % 4) (farP ⟨1, 0⟩)).X) (fI (rotP (m.Turn % 4) (farP ⟨1, 0⟩)).Y)), .val (.complex .f64 (fI (farI m.By.X)) (fI (farI m.By.Y)))]
theorem closed_mvOf (m : Mot) : Closed (mvOf m) := .agg rfl fun i x b h1 h2 => by
  rw [h1] at h2; cases h2
  have := List.mem_of_getElem? h1
  simp at this
  rcases this with rfl | rfl <;> exact .val _
theorem det_motion_of (m : Mot) : Det Try.prog 45 [en m] [] (mvOf m) [] := by
  refine det_finF mixed0 (knows_cons known_gauss_Turn (knows_cons known_GFix (knows_cons known_MPlane knows_nil))) ok_motion_of 2 (by simp) ?_
  simp [ic_motion_of, rs_motion_of, cRot, cGFix, cMPlane, mvOf, farP, vcLoose, heapsOf]
  exact ⟨rfl, rfl⟩
/-- .. -/ noncomputable def cMvOf : Ctr := V1 (fun m : Mot => True) mvOf
theorem known_MvOf : Known Try.prog 45 cMvOf := known_V1 (fun m _ => det_motion_of m) fun m _ => closed_mvOf m
def unitT (t : Pt) : Prop := t = ⟨1, 0⟩ ∨ t = ⟨0, 1⟩ ∨ t = ⟨-1, 0⟩ ∨ t = ⟨0, -1⟩
theorem do_rep {f t b : Pt} (hf : bigP f) (hb : bigP b) (ht : unitT t) : ∃ r s : Cx, fM (fI f.X) (fI f.Y) (fI t.X) (fI t.Y) = some (r.re, r.im) ∧ fA r.re r.im (fI b.X) (fI b.Y) = some (s.re, s.im) ∧ RepC s (f.X * t.X - f.Y * t.Y + b.X) (f.X * t.Y + f.Y * t.X + b.Y) := by
  unfold bigP at hf hb
  have b1 : (f.X * t.X).natAbs < 2 ^ 53 := by rcases ht with rfl | rfl | rfl | rfl <;> simp <;> omega
  have b2 : (f.Y * t.Y).natAbs < 2 ^ 53 := by rcases ht with rfl | rfl | rfl | rfl <;> simp <;> omega
  have b3 : (f.X * t.Y).natAbs < 2 ^ 53 := by rcases ht with rfl | rfl | rfl | rfl <;> simp <;> omega
  have b4 : (f.Y * t.X).natAbs < 2 ^ 53 := by rcases ht with rfl | rfl | rfl | rfl <;> simp <;> omega
  have b5 : (f.X * t.X - f.Y * t.Y).natAbs < 2 ^ 53 := by rcases ht with rfl | rfl | rfl | rfl <;> simp <;> omega
  have b6 : (f.X * t.Y + f.Y * t.X).natAbs < 2 ^ 53 := by rcases ht with rfl | rfl | rfl | rfl <;> simp <;> omega
  have b7 : (f.X * t.X - f.Y * t.Y + b.X).natAbs < 2 ^ 53 := by rcases ht with rfl | rfl | rfl | rfl <;> simp <;> omega
  have b8 : (f.X * t.Y + f.Y * t.X + b.Y).natAbs < 2 ^ 53 := by rcases ht with rfl | rfl | rfl | rfl <;> simp <;> omega
  have tx : t.X.natAbs < 2 ^ 53 := by rcases ht with rfl | rfl | rfl | rfl <;> decide
  have ty : t.Y.natAbs < 2 ^ 53 := by rcases ht with rfl | rfl | rfl | rfl <;> decide
  obtain ⟨r, h1, h2⟩ := repC_mul (z := ⟨fI f.X, fI f.Y⟩) (w := ⟨fI t.X, fI t.Y⟩) ⟨rep_fI (by omega), rep_fI (by omega)⟩ ⟨rep_fI tx, rep_fI ty⟩ b1 b2 b3 b4 b5 b6
  obtain ⟨q, h3, h4⟩ := repC_add (w := ⟨fI b.X, fI b.Y⟩) h2 ⟨rep_fI (by omega), rep_fI (by omega)⟩ b7 b8
  exact ⟨r, q, h1, h3, h4⟩
theorem unit_rot (n : Int) : unitT (rotP (n % 4) (farP ⟨1, 0⟩)) := by
  have e : farP ⟨1, 0⟩ = ⟨1, 0⟩ := by simp only [farP, farI_in (show -1048576 ≤ (1 : Int) by decide) (by decide), farI_in (show -1048576 ≤ (0 : Int) by decide) (by decide)]
  rw [e]
  have key : n % 4 = 0 ∨ n % 4 = 1 ∨ n % 4 = 2 ∨ n % 4 = 3 := by omega
  unfold unitT
  rcases key with h | h | h | h <;> rw [h] <;> simp [rotP]
theorem rot_mul (n : Int) (f : Pt) : let t := rotP (n % 4) (farP ⟨1, 0⟩); rotP (n % 4) f = ⟨f.X * t.X - f.Y * t.Y, f.X * t.Y + f.Y * t.X⟩ := by
  have e : farP ⟨1, 0⟩ = ⟨1, 0⟩ := by simp only [farP, farI_in (show -1048576 ≤ (1 : Int) by decide) (by decide), farI_in (show -1048576 ≤ (0 : Int) by decide) (by decide)]
  simp only [e]
  have key : n % 4 = 0 ∨ n % 4 = 1 ∨ n % 4 = 2 ∨ n % 4 = 3 := by omega
  rcases key with h | h | h | h <;> rw [h] <;> simp [rotP]
theorem big_far (p : Pt) : bigP (farP p) := ⟨farI_le p.X, farI_le p.Y⟩
theorem big_rot {f : Pt} (h : bigP f) (k : Int) : bigP (rotP k f) := by
  unfold bigP rotP at *
  split
  · simp only []; omega
  · split
    · simp only []; omega
    · split
      · simp only []; omega
      · exact h
theorem doP_eq (m : Mot) (p : Pt) : doP m p = ⟨(rotP (m.Turn % 4) (farP p)).X + farI m.By.X, (rotP (m.Turn % 4) (farP p)).Y + farI m.By.Y⟩ := by
  have h := big_rot (big_far p) (m.Turn % 4)
  unfold bigP at h
  simp only [doP, addP, farI_in h.1.1 h.1.2, farI_in h.2.1 h.2.2]
theorem det_motion_Do (m : Mot) (p : Pt) : Det Try.prog 27 [en m, en p] [] (en (doP m p)) [] := by
  refine det_finF mixed0 (knows_cons known_MvOf (knows_cons known_GFix (knows_cons known_MPlane (knows_cons known_MPoint knows_nil)))) ok_motion_Do 2 (by simp) ?_
  obtain ⟨r, q, h1, h2, h3⟩ := do_rep (big_far p) (big_far m.By) (unit_rot m.Turn)
  have h4 := rot_mul m.Turn (farP p)
  simp only at h4
  have h5 := big_rot (big_far p) (m.Turn % 4)
  rw [h4] at h5
  have h6 := big_far m.By
  unfold bigP at h5 h6
  have hok : okZ ⟨q.re, q.im⟩ := ⟨_, _, h3, by simp only at h5; omega, by simp only at h5; omega⟩
  have hp := ptZ_of (z := ⟨q.re, q.im⟩) h3 (by simp only at h5; omega) (by simp only at h5; omega)
  have he : doP m p = ptZ ⟨q.re, q.im⟩ := by rw [doP_eq, hp, h4]; rfl
  rw [he]
  clear he hp h3 h4 h5
  simp only [farP] at h1 h2
  simp [ic_motion_Do, rs_motion_Do, cMvOf, mvOf, cGFix, cMPlane, cZPoint, farP, h1, h2, hok, vcLoose, heapsOf]
  exact ⟨rfl, rfl⟩
theorem known_motion_Do : Known Try.prog 27 cDo := known_V2 (fun m p _ => det_motion_Do m p) fun m p _ => closed_en _
/-! ### plans, moved -/
def movA (m : Mot) (a : Ais) : Ais := ⟨a.ID, (blockP (doP m a.Low) (doP m a.High)).Low, (blockP (doP m a.Low) (doP m a.High)).High⟩
def movL (m : Mot) (l : List Ais) : List Ais := l.map (movA m)
attribute [local irreducible] doP
theorem det_plan_Moved (m : Mot) (l : List Ais) (hl : l.length ≤ 1000) : Det Try.prog 22 [en m, en l] [] (en (movL m l)) [] := by
  refine det_finF mixed0 (knows_cons known_motion_Do (knows_cons known_Block knows_nil)) ok_plan_Moved 2 (by simp) ?_
  simp [ic_plan_Moved, rs_plan_Moved]
  refine LoopC.scanR Ais.zero l (fun i (b : List Ais) => ⟨[(2, .ptr 0 0 0), (5, bs 1 (b.map Cel.c)), (9, .view (l.map Cel.c)), (10, .int .i64 l.length), (11, .int .i64 i)], [.rows 3 [Cel.c m], bob 5 (b.map Cel.c)]⟩) (fun i b r => movL m l = b ++ movL m r ∧ b.length ≤ i) [] [0, 1] (by simp [atR]) (by simp) (fun i a r b hi ha hd ⟨hG, hb⟩ => ?_) fun b ⟨hG, hb⟩ => ?_
  · simp [hi, ha, cDo, cBlock, vcLoose, heapsOf]
    exact ⟨by omega, by omega, b ++ [movA m a], ⟨[0, 4], by simp [atR, movA, blockP, mnI, mxI]⟩, by rw [hG]; simp [movL], by simp; omega⟩
  · simp only [movL, List.map_nil, List.append_nil] at hG
    simp [movL, hG]
theorem det_r07_Moved (m : Mot) (l : List Ais) (hl : l.length ≤ 1000) : Det Try.prog 23 [en m, en l] [] (en (movL m l)) [] := by
  refine det_finF mixed0 (knows_cons known_r04_Do knows_nil) ok_r07_Moved 2 (by simp) ?_
  simp [ic_r07_Moved, rs_r07_Moved]
  refine LoopC.scanR Ais.zero l (fun i (b : List Ais) => ⟨[(1, .view (l.map Cel.c)), (2, .ptr 0 0 0), (5, bs 1 (b.map Cel.c)), (6, .int .i64 i)], [.rows 3 [Cel.c m], bob 5 (b.map Cel.c)]⟩) (fun i b r => movL m l = b ++ movL m r ∧ b.length ≤ i) [] [0, 1] (by simp [atR]) (by simp) (fun i a r b hi ha hd ⟨hG, hb⟩ => ?_) fun b ⟨hG, hb⟩ => ?_
  · simp [hi, ha, cDo, vcLoose, heapsOf]
    exact ⟨by omega, by omega, b ++ [movA m a], ⟨[0, 4], by simp [atR, movA, blockP, mnI, mxI]⟩, by rw [hG]; simp [movL], by simp; omega⟩
  · simp only [movL, List.map_nil, List.append_nil] at hG
    simp [movL, hG]
def cMoved : Ctr := V2 (fun (m : Mot) (l : List Ais) => l.length ≤ 1000) fun m l => en (movL m l)
theorem known_Moved : Known Try.prog 22 cMoved := known_V2 (fun m l h => det_plan_Moved m l h) fun m l _ => closed_en _
theorem known_r07_Moved : Known Try.prog 23 cMoved := known_V2 (fun m l h => det_r07_Moved m l h) fun m l _ => closed_en _
theorem det_G_Same (xs ys : List Ais) (hl : xs.length ≤ 9223372036854775807) : Det Try.prog 21 [en xs, en ys] [] (.bool (decide (xs = ys))) [] := by
  refine det_finF mixed0 knows_nil ok_r07_Same 1 (by simp) ?_
  simp [ic_r07_Same, rs_r07_Same]
  refine ⟨fun h e => h (by rw [e]), fun hlen => ?_⟩
  refine LoopC.scanB Ais.zero xs (fun i (_ : Unit) => ⟨[(0, .view (xs.map Cel.c)), (1, .view (ys.map Cel.c)), (5, .int .i64 i)], []⟩) (fun i _ r => xs = ys ↔ r = ys.drop i) () (by simp) (by simp) (by simp) (fun i a r b hi ha hd hG => ?_) fun b hG => ?_
  · have hi' : i < ys.length := by omega
    have hy := drop_nth Ais.zero hi'
    rw [hy] at hG
    by_cases e : a = nth ys i Ais.zero
    · simp [hi, hi', ha, vcLoose, e]
      refine ⟨by omega, ?_⟩
      rw [hG, e]; simp
    · have e3 : ¬ xs = ys := fun h => by rw [hG] at h; simp at h; exact e h.1
      simp [hi, hi', ha, vcLoose, e3]
      rw [ext_Ais, ext_Pt, ext_Pt] at e
      grind
  · simp
    rw [hG, List.drop_of_length_le (by omega)]
def cGSame : Ctr := C2 (fun xs ys : List Ais => xs.length ≤ 9223372036854775807) fun xs ys => .bool (decide (xs = ys))
theorem known_G_Same : Known Try.prog 21 cGSame := known_C2 (fun l n h => det_G_Same l n h) fun l n => flat_bool _
theorem det_PlanMoved (l : List Ais) (wl : Rd.wf l) (m : Mot) (wm : Rd.wf m) : Det Try.prog 5 [en l, en m] [] (.bool true) [] := by
  refine det_finF mixed0 (knows_cons known_07alive (knows_cons known_Moved (knows_cons known_r07_Moved (knows_cons known_G_Same knows_nil)))) ok_l07_PlanMoved 1 (by simp) ?_
  by_cases hl : l.length ≤ 60
  · have h1 : ¬ 60 < l.length := by omega
    have h2 : l.length ≤ 1000 := by omega
    have h3 : (movL m l).length ≤ 9223372036854775807 := by simp only [movL, List.length_map]; omega
    simp [ic_l07_PlanMoved, rs_l07_PlanMoved, c07Alive, cMoved, cGSame, vcLoose, heapsOf, h1, h2, h3]
  · have h1 : 60 < l.length := by omega
    have h1' : ¬ l.length ≤ 60 := by omega
    simp [ic_l07_PlanMoved, rs_l07_PlanMoved, c07Alive, vcLoose, heapsOf, h1, h1']
end Go.Proofs.Ytjpgnicgapkndaa.Sx
