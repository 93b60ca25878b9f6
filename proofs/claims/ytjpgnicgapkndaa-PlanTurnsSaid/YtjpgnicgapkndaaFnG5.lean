/- Motions: the document's answer, and the program's. No conditions: a kit of our own. -/
import Derived.Test.YtjpgnicgapkndaaFnG3
namespace Go.Proofs.Ytjpgnicgapkndaa.Sx
open Go Go.RowKit
set_option linter.unusedVariables false
set_option linter.unusedSimpArgs false

attribute [local irreducible] farI
/-! ### quarters -/
def rotP (k : Int) (a : Pt) : Pt := if k = 1 then ⟨-a.Y, a.X⟩ else if k = 2 then ⟨-a.X, -a.Y⟩ else if k = 3 then ⟨a.Y, -a.X⟩ else a
theorem quar_eq (n : Int) : (if n.tmod 4 < 0 then n.tmod 4 + 4 else n.tmod 4) = n % 4 := by
  have h1 := Int.emod_add_mul_ediv n 4
  have h2 := Int.tmod_add_mul_tdiv n 4
  by_cases h : 0 ≤ n
  · rw [Int.tmod_eq_emod_of_nonneg h]; split <;> omega
  · have e : n.tmod 4 = -((-n) % 4) := by
      rw [← Int.tmod_eq_emod_of_nonneg (by omega : 0 ≤ -n), Int.neg_tmod]; omega
    rw [e]; split <;> omega
theorem det_r03_Quarter (n : Int) : Det Try.prog 75 [en n] [] (en (n % 4)) [] := by
  refine det_finF mixed0 knows_nil ok_r03_Quarter 1 (by simp) ?_
  rw [← quar_eq]
  have h := quar_eq n
  simp [ic_r03_Quarter, rs_r03_Quarter]
  omega
def cQuar : Ctr := C1 (fun n : Int => True) fun n => en (n % 4)
theorem known_r03_Quarter : Known Try.prog 75 cQuar := known_C1 (fun n _ => det_r03_Quarter n) fun n => flat_int _ _
theorem det_r03_Turn (p : Pt) (n : Int) : Det Try.prog 58 [en p, en n] [] (en (rotP (n % 4) (farP p))) [] := by
  refine det_finF mixed0 (knows_cons known_r03_Fix (knows_cons known_r03_Quarter knows_nil)) ok_r03_Turn 2 (by simp) ?_
  have hx := farI_le p.X
  have hy := farI_le p.Y
  simp [ic_r03_Turn, rs_r03_Turn, cGFix, farP, cQuar, vcLoose, heapsOf]
  have key : n % 4 = 0 ∨ n % 4 = 1 ∨ n % 4 = 2 ∨ n % 4 = 3 := by omega
  rcases key with h | h | h | h <;> simp [h, rotP] <;> omega
def cRot : Ctr := V2 (fun (p : Pt) (n : Int) => True) fun p n => en (rotP (n % 4) (farP p))
theorem known_r03_Turn : Known Try.prog 58 cRot := known_V2 (fun p n _ => det_r03_Turn p n) fun p n _ => closed_en _
def addP (p q : Pt) : Pt := ⟨farI p.X + farI q.X, farI p.Y + farI q.Y⟩
theorem det_r03_Add (p q : Pt) : Det Try.prog 57 [en p, en q] [] (en (addP p q)) [] := by
  refine det_finF mixed0 (knows_cons known_r03_Fix knows_nil) ok_r03_Add 2 (by simp) ?_
  have hx := farI_le p.X
  have hy := farI_le p.Y
  have hx' := farI_le q.X
  have hy' := farI_le q.Y
  simp [ic_r03_Add, rs_r03_Add, cGFix, farP, addP, vcLoose, heapsOf]
  omega
def cAddP : Ctr := V2 (fun p q : Pt => True) fun p q => en (addP p q)
theorem known_r03_Add : Known Try.prog 57 cAddP := known_V2 (fun p q _ => det_r03_Add p q) fun p q _ => closed_en _
def doP (m : Mot) (p : Pt) : Pt := addP (rotP (m.Turn % 4) (farP p)) m.By
theorem det_r04_Do (m : Mot) (p : Pt) : Det Try.prog 44 [en m, en p] [] (en (doP m p)) [] := by
  refine det_finF mixed0 (knows_cons known_r03_Turn (knows_cons known_r03_Add knows_nil)) ok_r04_Do 2 (by simp) ?_
  simp [ic_r04_Do, rs_r04_Do, cRot, cAddP, doP, vcLoose, heapsOf]
def cDo : Ctr := V2 (fun (m : Mot) (p : Pt) => True) fun m p => en (doP m p)
theorem known_r04_Do : Known Try.prog 44 cDo := known_V2 (fun m p _ => det_r04_Do m p) fun m p _ => closed_en _
/-! ### the program's -/
def rotN : Nat → Pt → Pt
  | 0, a => a
  | n + 1, a => rotN n ⟨-a.Y, a.X⟩
theorem rotN_rot {n : Nat} (h : n < 4) (a : Pt) : rotN n a = rotP n a := by
  match n, h with
  | 0, _ => simp [rotN, rotP]
  | 1, _ => simp [rotN, rotP]
  | 2, _ => simp [rotN, rotP]
  | 3, _ => simp [rotN, rotP]
theorem f0 : fI 0 = 0 := by rw [fI_eq]; decide
theorem f1 : fI 1 = 4607182418800017408 := by rw [fI_eq]; decide
def bigP (a : Pt) : Prop := (-1048576 ≤ a.X ∧ a.X ≤ 1048576) ∧ -1048576 ≤ a.Y ∧ a.Y ≤ 1048576
theorem and3 (n : Int) : IntKind.i64.wrap (((n % 2 ^ IntKind.i64.bits).toNat &&& 3 % 2 ^ IntKind.i64.bits : Nat) : Int) = n % 4 := by
  have e0 : IntKind.i64.bits = 64 := rfl
  rw [e0]
  have e1 : (3 % 2 ^ 64 : Nat) = 2 ^ 2 - 1 := by decide
  rw [e1, Nat.and_two_pow_sub_one_eq_mod]
  have e2 : (((n % 2 ^ 64).toNat % 2 ^ 2 : Nat) : Int) = n % 4 := by omega
  rw [e2]
  simp [IntKind.wrap, IntKind.signed, IntKind.bits]
  omega
theorem rep_0 : Rep 0 0 := by have := rep_fI (n := 0) (by decide); rwa [f0] at this
theorem rep_1 : Rep 4607182418800017408 1 := by have := rep_fI (n := 1) (by decide); rwa [f1] at this
theorem det_gauss_Turn (p : Pt) (n : Int) : Det Try.prog 59 [en p, en n] [] (en (rotP (n % 4) (farP p))) [] := by
  refine det_finF mixed0 (knows_cons known_GPlane (knows_cons known_GPoint knows_nil)) ok_gauss_Turn 2 (by simp) ?_
  have h3 := and3 n
  obtain ⟨K, hK, hKn⟩ : ∃ k : Nat, k < 4 ∧ (k : Int) = n % 4 := ⟨(n % 4).toNat, by omega, by omega⟩
  rw [← hKn] at h3 ⊢
  rw [← rotN_rot hK]
  have hx := farI_le p.X
  have hy := farI_le p.Y
  simp [ic_gauss_Turn, rs_gauss_Turn]
  refine BackC.genR (fun s : Nat × Pt × Cx => ⟨[(1, .int .i64 s.1), (4, .ptr 0 0 0), (5, .val (.complex .f64 s.2.2.re s.2.2.im))], [.rows 2 [[.int .i64 0, .int .i64 0]]]⟩) (fun s => s.1 < 4 ∧ RepC s.2.2 s.2.1.X s.2.1.Y ∧ bigP s.2.1 ∧ rotN s.1 s.2.1 = rotN K (farP p)) (fun s => s.1) ?_ ?_
  · simp [cGPlane, vcLoose, heapsOf]
    exact ⟨K, farP p, ⟨fI (farI p.X), fI (farI p.Y)⟩, ⟨[1], by simp [atR, h3]⟩, hK, ⟨rep_far p.X, rep_far p.Y⟩, ⟨hx, hy⟩, rfl⟩
  · rintro ⟨k, a, z⟩ ⟨hk, hz, hb, hr⟩
    simp only at hk hz hb hr
    by_cases h0 : k = 0
    · subst h0
      have hok : okZ ⟨z.re, z.im⟩ := ⟨a.X, a.Y, hz, by unfold bigP at hb; omega, by unfold bigP at hb; omega⟩
      have hp : ptZ ⟨z.re, z.im⟩ = a := ptZ_of hz (by unfold bigP at hb; omega) (by unfold bigP at hb; omega)
      rw [← hr, rotN]
      simp [cZPoint, hok, hp]
    · obtain ⟨r, hm, hrr⟩ := repC_mul (w := ⟨0, 4607182418800017408⟩) hz ⟨rep_0, rep_1⟩ (by simp) (by unfold bigP at hb; omega) (by unfold bigP at hb; omega) (by simp) (by unfold bigP at hb; omega) (by unfold bigP at hb; omega)
      simp at hm
      have e1 : a.X * 0 - a.Y * 1 = -a.Y := by omega
      have e2 : a.X * 1 + a.Y * 0 = a.X := by omega
      rw [e1, e2] at hrr
      have h1 : k = k - 1 + 1 := by omega
      have hr2 : rotN (k - 1) ⟨-a.Y, a.X⟩ = rotN K (farP p) := by rw [← hr]; conv => rhs; rw [h1, rotN]
      simp [h0, hm]
      exact ⟨by omega, k - 1, ⟨-a.Y, a.X⟩, r, ⟨[0], by simp [atR]; omega⟩, ⟨by omega, hrr, by unfold bigP at *; simp only []; omega, hr2⟩, by omega⟩
theorem known_gauss_Turn : Known Try.prog 59 cRot := known_V2 (fun p n _ => det_gauss_Turn p n) fun p n _ => closed_en _
theorem det_motion_plane (p : Pt) : Det Try.prog 47 [en p] [] (en (⟨fI p.X, fI p.Y⟩ : Cx)) [] := by
  refine det_finF mixed0 knows_nil ok_motion_plane 1 (by simp) ?_
  simp [ic_motion_plane, rs_motion_plane]
/-- .. -/ noncomputable def cMPlane : Ctr := V1 (fun p : Pt => True) fun p => en (⟨fI p.X, fI p.Y⟩ : Cx)
theorem known_MPlane : Known Try.prog 47 cMPlane := known_V1 (fun p _ => det_motion_plane p) fun p _ => closed_en _
theorem det_motion_point (z : Cx) (hz : okZ z) : Det Try.prog 46 [en z] [] (en (ptZ z)) [] := by
  refine det_finF mixed0 knows_nil ok_motion_point 2 (by simp) ?_
  obtain ⟨h1, h2⟩ := okZ_to hz
  simp [ic_motion_point, rs_motion_point, h1, h2]
theorem known_MPoint : Known Try.prog 46 cZPoint := known_V1 (fun z h => det_motion_point z h) fun z _ => closed_en _
/-- A move: what it turns by, what it adds. -/ noncomputable def mvOf (m : Mot) : AV := .agg [.val (.complex .f64 (fI (rotP (m.Turn % 4) (farP ⟨1, 0⟩)).X) (fI (rotP (m.Turn % 4) (farP ⟨1, 0⟩)).Y)), .val (.complex .f64 (fI (farI m.By.X)) (fI (farI m.By.Y)))]
theorem closed_mvOf (m : Mot) : Closed (mvOf m) := .agg rfl fun i x b h1 h2 => by
  rw [h1] at h2; cases h2
  have := List.mem_of_getElem? h1
  simp at this
  rcases this with rfl | rfl <;> exact .val _
theorem det_motion_of (m : Mot) : Det Try.prog 45 [en m] [] (mvOf m) [] := by
  refine det_finF mixed0 (knows_cons known_gauss_Turn (knows_cons known_GFix (knows_cons known_MPlane knows_nil))) ok_motion_of 2 (by simp) ?_
  simp [ic_motion_of, rs_motion_of, cRot, cGFix, cMPlane, mvOf, farP, vcLoose, heapsOf]
  exact ⟨rfl, rfl⟩
/-- .. -/ noncomputable def cMvOf : Ctr := V1 (fun m : Mot => True) mvOf
theorem known_MvOf : Known Try.prog 45 cMvOf := known_V1 (fun m _ => det_motion_of m) fun m _ => closed_mvOf m
def unitT (t : Pt) : Prop := t = ⟨1, 0⟩ ∨ t = ⟨0, 1⟩ ∨ t = ⟨-1, 0⟩ ∨ t = ⟨0, -1⟩
theorem do_rep {f t b : Pt} (hf : bigP f) (hb : bigP b) (ht : unitT t) : ∃ r s : Cx, fM (fI f.X) (fI f.Y) (fI t.X) (fI t.Y) = some (r.re, r.im) ∧ fA r.re r.im (fI b.X) (fI b.Y) = some (s.re, s.im) ∧ RepC s (f.X * t.X - f.Y * t.Y + b.X) (f.X * t.Y + f.Y * t.X + b.Y) := by
  unfold bigP at hf hb
  have b1 : (f.X * t.X).natAbs < 2 ^ 53 := by rcases ht with rfl | rfl | rfl | rfl <;> simp <;> omega
  have b2 : (f.Y * t.Y).natAbs < 2 ^ 53 := by rcases ht with rfl | rfl | rfl | rfl <;> simp <;> omega
  have b3 : (f.X * t.Y).natAbs < 2 ^ 53 := by rcases ht with rfl | rfl | rfl | rfl <;> simp <;> omega
  have b4 : (f.Y * t.X).natAbs < 2 ^ 53 := by rcases ht with rfl | rfl | rfl | rfl <;> simp <;> omega
  have b5 : (f.X * t.X - f.Y * t.Y).natAbs < 2 ^ 53 := by rcases ht with rfl | rfl | rfl | rfl <;> simp <;> omega
  have b6 : (f.X * t.Y + f.Y * t.X).natAbs < 2 ^ 53 := by rcases ht with rfl | rfl | rfl | rfl <;> simp <;> omega
  have b7 : (f.X * t.X - f.Y * t.Y + b.X).natAbs < 2 ^ 53 := by rcases ht with rfl | rfl | rfl | rfl <;> simp <;> omega
  have b8 : (f.X * t.Y + f.Y * t.X + b.Y).natAbs < 2 ^ 53 := by rcases ht with rfl | rfl | rfl | rfl <;> simp <;> omega
  have tx : t.X.natAbs < 2 ^ 53 := by rcases ht with rfl | rfl | rfl | rfl <;> decide
  have ty : t.Y.natAbs < 2 ^ 53 := by rcases ht with rfl | rfl | rfl | rfl <;> decide
  obtain ⟨r, h1, h2⟩ := repC_mul (z := ⟨fI f.X, fI f.Y⟩) (w := ⟨fI t.X, fI t.Y⟩) ⟨rep_fI (by omega), rep_fI (by omega)⟩ ⟨rep_fI tx, rep_fI ty⟩ b1 b2 b3 b4 b5 b6
  obtain ⟨q, h3, h4⟩ := repC_add (w := ⟨fI b.X, fI b.Y⟩) h2 ⟨rep_fI (by omega), rep_fI (by omega)⟩ b7 b8
  exact ⟨r, q, h1, h3, h4⟩
theorem unit_rot (n : Int) : unitT (rotP (n % 4) (farP ⟨1, 0⟩)) := by
  have e : farP ⟨1, 0⟩ = ⟨1, 0⟩ := by simp only [farP, farI_in (show -1048576 ≤ (1 : Int) by decide) (by decide), farI_in (show -1048576 ≤ (0 : Int) by decide) (by decide)]
  rw [e]
  have key : n % 4 = 0 ∨ n % 4 = 1 ∨ n % 4 = 2 ∨ n % 4 = 3 := by omega
  unfold unitT
  rcases key with h | h | h | h <;> rw [h] <;> simp [rotP]
theorem rot_mul (n : Int) (f : Pt) : let t := rotP (n % 4) (farP ⟨1, 0⟩); rotP (n % 4) f = ⟨f.X * t.X - f.Y * t.Y, f.X * t.Y + f.Y * t.X⟩ := by
  have e : farP ⟨1, 0⟩ = ⟨1, 0⟩ := by simp only [farP, farI_in (show -1048576 ≤ (1 : Int) by decide) (by decide), farI_in (show -1048576 ≤ (0 : Int) by decide) (by decide)]
  simp only [e]
  have key : n % 4 = 0 ∨ n % 4 = 1 ∨ n % 4 = 2 ∨ n % 4 = 3 := by omega
  rcases key with h | h | h | h <;> rw [h] <;> simp [rotP]
theorem big_far (p : Pt) : bigP (farP p) := ⟨farI_le p.X, farI_le p.Y⟩
theorem big_rot {f : Pt} (h : bigP f) (k : Int) : bigP (rotP k f) := by
  unfold bigP rotP at *
  split
  · simp only []; omega
  · split
    · simp only []; omega
    · split
      · simp only []; omega
      · exact h
theorem doP_eq (m : Mot) (p : Pt) : doP m p = ⟨(rotP (m.Turn % 4) (farP p)).X + farI m.By.X, (rotP (m.Turn % 4) (farP p)).Y + farI m.By.Y⟩ := by
  have h := big_rot (big_far p) (m.Turn % 4)
  unfold bigP at h
  simp only [doP, addP, farI_in h.1.1 h.1.2, farI_in h.2.1 h.2.2]
theorem det_motion_Do (m : Mot) (p : Pt) : Det Try.prog 27 [en m, en p] [] (en (doP m p)) [] := by
  refine det_finF mixed0 (knows_cons known_MvOf (knows_cons known_GFix (knows_cons known_MPlane (knows_cons known_MPoint knows_nil)))) ok_motion_Do 2 (by simp) ?_
  obtain ⟨r, q, h1, h2, h3⟩ := do_rep (big_far p) (big_far m.By) (unit_rot m.Turn)
  have h4 := rot_mul m.Turn (farP p)
  simp only at h4
  have h5 := big_rot (big_far p) (m.Turn % 4)
  rw [h4] at h5
  have h6 := big_far m.By
  unfold bigP at h5 h6
  have hok : okZ ⟨q.re, q.im⟩ := ⟨_, _, h3, by simp only at h5; omega, by simp only at h5; omega⟩
  have hp := ptZ_of (z := ⟨q.re, q.im⟩) h3 (by simp only at h5; omega) (by simp only at h5; omega)
  have he : doP m p = ptZ ⟨q.re, q.im⟩ := by rw [doP_eq, hp, h4]; rfl
  rw [he]
  clear he hp h3 h4 h5
  simp only [farP] at h1 h2
  simp [ic_motion_Do, rs_motion_Do, cMvOf, mvOf, cGFix, cMPlane, cZPoint, farP, h1, h2, hok, vcLoose, heapsOf]
  exact ⟨rfl, rfl⟩
theorem known_motion_Do : Known Try.prog 27 cDo := known_V2 (fun m p _ => det_motion_Do m p) fun m p _ => closed_en _
/-! ### plans, moved -/
def movA (m : Mot) (a : Ais) : Ais := ⟨a.ID, (blockP (doP m a.Low) (doP m a.High)).Low, (blockP (doP m a.Low) (doP m a.High)).High⟩
def movL (m : Mot) (l : List Ais) : List Ais := l.map (movA m)
attribute [local irreducible] doP
theorem det_plan_Moved (m : Mot) (l : List Ais) (hl : l.length ≤ 1000) : Det Try.prog 22 [en m, en l] [] (en (movL m l)) [] := by
  refine det_finF mixed0 (knows_cons known_motion_Do (knows_cons known_Block knows_nil)) ok_plan_Moved 2 (by simp) ?_
  simp [ic_plan_Moved, rs_plan_Moved]
  refine LoopC.scanR Ais.zero l (fun i (b : List Ais) => ⟨[(2, .ptr 0 0 0), (5, bs 1 (b.map Cel.c)), (9, .view (l.map Cel.c)), (10, .int .i64 l.length), (11, .int .i64 i)], [.rows 3 [Cel.c m], bob 5 (b.map Cel.c)]⟩) (fun i b r => movL m l = b ++ movL m r ∧ b.length ≤ i) [] [0, 1] (by simp [atR]) (by simp) (fun i a r b hi ha hd ⟨hG, hb⟩ => ?_) fun b ⟨hG, hb⟩ => ?_
  · simp [hi, ha, cDo, cBlock, vcLoose, heapsOf]
    exact ⟨by omega, by omega, b ++ [movA m a], ⟨[0, 4], by simp [atR, movA, blockP, mnI, mxI]⟩, by rw [hG]; simp [movL], by simp; omega⟩
  · simp only [movL, List.map_nil, List.append_nil] at hG
    simp [movL, hG]
theorem det_r07_Moved (m : Mot) (l : List Ais) (hl : l.length ≤ 1000) : Det Try.prog 23 [en m, en l] [] (en (movL m l)) [] := by
  refine det_finF mixed0 (knows_cons known_r04_Do knows_nil) ok_r07_Moved 2 (by simp) ?_
  simp [ic_r07_Moved, rs_r07_Moved]
  refine LoopC.scanR Ais.zero l (fun i (b : List Ais) => ⟨[(1, .view (l.map Cel.c)), (2, .ptr 0 0 0), (5, bs 1 (b.map Cel.c)), (6, .int .i64 i)], [.rows 3 [Cel.c m], bob 5 (b.map Cel.c)]⟩) (fun i b r => movL m l = b ++ movL m r ∧ b.length ≤ i) [] [0, 1] (by simp [atR]) (by simp) (fun i a r b hi ha hd ⟨hG, hb⟩ => ?_) fun b ⟨hG, hb⟩ => ?_
  · simp [hi, ha, cDo, vcLoose, heapsOf]
    exact ⟨by omega, by omega, b ++ [movA m a], ⟨[0, 4], by simp [atR, movA, blockP, mnI, mxI]⟩, by rw [hG]; simp [movL], by simp; omega⟩
  · simp only [movL, List.map_nil, List.append_nil] at hG
    simp [movL, hG]
def cMoved : Ctr := V2 (fun (m : Mot) (l : List Ais) => l.length ≤ 1000) fun m l => en (movL m l)
theorem known_Moved : Known Try.prog 22 cMoved := known_V2 (fun m l h => det_plan_Moved m l h) fun m l _ => closed_en _
theorem known_r07_Moved : Known Try.prog 23 cMoved := known_V2 (fun m l h => det_r07_Moved m l h) fun m l _ => closed_en _
theorem det_G_Same (xs ys : List Ais) (hl : xs.length ≤ 9223372036854775807) : Det Try.prog 21 [en xs, en ys] [] (.bool (decide (xs = ys))) [] := by
  refine det_finF mixed0 knows_nil ok_r07_Same 1 (by simp) ?_
  simp [ic_r07_Same, rs_r07_Same]
  refine ⟨fun h e => h (by rw [e]), fun hlen => ?_⟩
  refine LoopC.scanB Ais.zero xs (fun i (_ : Unit) => ⟨[(0, .view (xs.map Cel.c)), (1, .view (ys.map Cel.c)), (5, .int .i64 i)], []⟩) (fun i _ r => xs = ys ↔ r = ys.drop i) () (by simp) (by simp) (by simp) (fun i a r b hi ha hd hG => ?_) fun b hG => ?_
  · have hi' : i < ys.length := by omega
    have hy := drop_nth Ais.zero hi'
    rw [hy] at hG
    by_cases e : a = nth ys i Ais.zero
    · simp [hi, hi', ha, vcLoose, e]
      refine ⟨by omega, ?_⟩
      rw [hG, e]; simp
    · have e3 : ¬ xs = ys := fun h => by rw [hG] at h; simp at h; exact e h.1
      simp [hi, hi', ha, vcLoose, e3]
      rw [ext_Ais, ext_Pt, ext_Pt] at e
      grind
  · simp
    rw [hG, List.drop_of_length_le (by omega)]
def cGSame : Ctr := C2 (fun xs ys : List Ais => xs.length ≤ 9223372036854775807) fun xs ys => .bool (decide (xs = ys))
theorem known_G_Same : Known Try.prog 21 cGSame := known_C2 (fun l n h => det_G_Same l n h) fun l n => flat_bool _
theorem det_PlanMoved (l : List Ais) (wl : Rd.wf l) (m : Mot) (wm : Rd.wf m) : Det Try.prog 5 [en l, en m] [] (.bool true) [] := by
  refine det_finF mixed0 (knows_cons known_07alive (knows_cons known_Moved (knows_cons known_r07_Moved (knows_cons known_G_Same knows_nil)))) ok_l07_PlanMoved 1 (by simp) ?_
  by_cases hl : l.length ≤ 60
  · have h1 : ¬ 60 < l.length := by omega
    have h2 : l.length ≤ 1000 := by omega
    have h3 : (movL m l).length ≤ 9223372036854775807 := by simp only [movL, List.length_map]; omega
    simp [ic_l07_PlanMoved, rs_l07_PlanMoved, c07Alive, cMoved, cGSame, vcLoose, heapsOf, h1, h2, h3]
  · have h1 : 60 < l.length := by omega
    have h1' : ¬ l.length ≤ 60 := by omega
    simp [ic_l07_PlanMoved, rs_l07_PlanMoved, c07Alive, vcLoose, heapsOf, h1, h1']
end Go.Proofs.Ytjpgnicgapkndaa.Sx
/- The law PlanTurns. No conditions: a kit of our own. -/
namespace Go.Proofs.Ytjpgnicgapkndaa.Sx
open Go Go.RowKit
set_option linter.unusedVariables false
set_option linter.unusedSimpArgs false

/-! ### small plans, turned -/
def mvP (k : Int) (b p : Pt) : Pt := ⟨(rotP k p).X + b.X, (rotP k p).Y + b.Y⟩
theorem do_mv {m : Mot} {p : Pt} (hm : small m.By 200 = true) (hp : small p 200 = true) : doP m p = mvP (m.Turn % 4) m.By p := by
  have h1 := small_in hm
  have h2 := small_in hp
  have e : farP p = p := by
    simp only [farP, farI_in (show -1048576 ≤ p.X by omega) (by omega), farI_in (show -1048576 ≤ p.Y by omega) (by omega)]
  rw [doP_eq, e, farI_in (show -1048576 ≤ m.By.X by omega) (by omega), farI_in (show -1048576 ≤ m.By.Y by omega) (by omega)]
  rfl
def quarter (k : Int) : Prop := k = 0 ∨ k = 1 ∨ k = 2 ∨ k = 3
theorem rot_0 (p : Pt) : rotP 0 p = p := by simp [rotP]
theorem rot_1 (p : Pt) : rotP 1 p = ⟨-p.Y, p.X⟩ := by simp [rotP]
theorem rot_2 (p : Pt) : rotP 2 p = ⟨-p.X, -p.Y⟩ := by simp [rotP]
theorem rot_3 (p : Pt) : rotP 3 p = ⟨p.Y, -p.X⟩ := by simp [rotP]
def mvA (k : Int) (b : Pt) (a : Ais) : Ais := ⟨a.ID, (blockP (mvP k b a.Low) (mvP k b a.High)).Low, (blockP (mvP k b a.Low) (mvP k b a.High)).High⟩
def proper (a : Ais) : Prop := a.Low.X ≤ a.High.X ∧ a.Low.Y ≤ a.High.Y
theorem has_mv {k : Int} (hk : quarter k) (b : Pt) {a : Ais} (ha : proper a) (p : Pt) : hasP (mvA k b a) (mvP k b p) = hasP a p := by
  obtain ⟨h1, h2⟩ := ha
  rw [Bool.eq_iff_iff]
  simp only [hasP, Bool.and_eq_true, decide_eq_true_eq]
  rcases hk with rfl | rfl | rfl | rfl <;> simp only [mvA, blockP, mvP, rot_0, rot_1, rot_2, rot_3] <;> omega
theorem mvA_val {k : Int} (hk : quarter k) (b : Pt) {a : Ais} (ha : proper a) : ((k = 0 ∧ (mvA k b a).Low = ⟨a.Low.X + b.X, a.Low.Y + b.Y⟩ ∧ (mvA k b a).High = ⟨a.High.X + b.X, a.High.Y + b.Y⟩) ∨ (k = 1 ∧ (mvA k b a).Low = ⟨-a.High.Y + b.X, a.Low.X + b.Y⟩ ∧ (mvA k b a).High = ⟨-a.Low.Y + b.X, a.High.X + b.Y⟩)) ∨
    ((k = 2 ∧ (mvA k b a).Low = ⟨-a.High.X + b.X, -a.High.Y + b.Y⟩ ∧ (mvA k b a).High = ⟨-a.Low.X + b.X, -a.Low.Y + b.Y⟩) ∨ (k = 3 ∧ (mvA k b a).Low = ⟨a.Low.Y + b.X, -a.High.X + b.Y⟩ ∧ (mvA k b a).High = ⟨a.High.Y + b.X, -a.Low.X + b.Y⟩)) := by
  obtain ⟨h1, h2⟩ := ha
  rcases hk with rfl | rfl | rfl | rfl
  · refine .inl (.inl ⟨rfl, ?_, ?_⟩) <;> simp only [mvA, blockP, mvP, rot_0, Pt.mk.injEq] <;> omega
  · refine .inl (.inr ⟨rfl, ?_, ?_⟩) <;> simp only [mvA, blockP, mvP, rot_1, Pt.mk.injEq] <;> omega
  · refine .inr (.inl ⟨rfl, ?_, ?_⟩) <;> simp only [mvA, blockP, mvP, rot_2, Pt.mk.injEq] <;> omega
  · refine .inr (.inr ⟨rfl, ?_, ?_⟩) <;> simp only [mvA, blockP, mvP, rot_3, Pt.mk.injEq] <;> omega
theorem meets_lin (x y : Ais) : meets x y = true ↔ (x.Low.X ≤ x.High.X ∧ x.Low.X ≤ y.High.X ∧ y.Low.X ≤ x.High.X ∧ y.Low.X ≤ y.High.X) ∧ x.Low.Y ≤ x.High.Y ∧ x.Low.Y ≤ y.High.Y ∧ y.Low.Y ≤ x.High.Y ∧ y.Low.Y ≤ y.High.Y := by
  simp only [meets, Bool.and_eq_true, decide_eq_true_eq]
  constructor
  · rintro ⟨h1, h2⟩; exact ⟨by omega, by omega⟩
  · rintro ⟨h1, h2⟩; exact ⟨by omega, by omega⟩
theorem meets_mv {k : Int} (hk : quarter k) (b : Pt) {x y : Ais} (hx : proper x) (hy : proper y) : meets (mvA k b x) (mvA k b y) = meets x y := by
  have vx := mvA_val hk b hx
  have vy := mvA_val hk b hy
  rw [Bool.eq_iff_iff, meets_lin, meets_lin]
  rcases hk with rfl | rfl | rfl | rfl
  · obtain ⟨_, e1, e2⟩ := (vx.resolve_right (by omega)).resolve_right (by omega)
    obtain ⟨_, e3, e4⟩ := (vy.resolve_right (by omega)).resolve_right (by omega)
    rw [e1, e2, e3, e4]
    simp only []
    omega
  · obtain ⟨_, e1, e2⟩ := (vx.resolve_right (by omega)).resolve_left (by omega)
    obtain ⟨_, e3, e4⟩ := (vy.resolve_right (by omega)).resolve_left (by omega)
    rw [e1, e2, e3, e4]
    simp only []
    omega
  · obtain ⟨_, e1, e2⟩ := (vx.resolve_left (by omega)).resolve_right (by omega)
    obtain ⟨_, e3, e4⟩ := (vy.resolve_left (by omega)).resolve_right (by omega)
    rw [e1, e2, e3, e4]
    simp only []
    omega
  · obtain ⟨_, e1, e2⟩ := (vx.resolve_left (by omega)).resolve_left (by omega)
    obtain ⟨_, e3, e4⟩ := (vy.resolve_left (by omega)).resolve_left (by omega)
    rw [e1, e2, e3, e4]
    simp only []
    omega
theorem blk_mv {k : Int} (hk : quarter k) (b u v : Pt) : (blockP (mvP k b u) (mvP k b v)).Low = (mvA k b (blockP u v)).Low ∧ (blockP (mvP k b u) (mvP k b v)).High = (mvA k b (blockP u v)).High := by
  rcases hk with rfl | rfl | rfl | rfl <;> simp only [mvA, blockP, mvP, rot_0, rot_1, rot_2, rot_3, Pt.mk.injEq] <;> refine ⟨⟨?_, ?_⟩, ?_, ?_⟩ <;> omega
theorem meets_blk {k : Int} (hk : quarter k) (b : Pt) {x : Ais} (hx : proper x) (u v : Pt) : meets (mvA k b x) (blockP (mvP k b u) (mvP k b v)) = meets x (blockP u v) := by
  have hp : proper (blockP u v) := by unfold proper; simp only [blockP]; omega
  rw [← meets_mv hk b hx hp]
  obtain ⟨e1, e2⟩ := blk_mv hk b u v
  rw [Bool.eq_iff_iff, meets_lin, meets_lin, e1, e2]
theorem bend_mv {k : Int} (hk : quarter k) (b p q : Pt) {one other : Int} (ho : one = 0 ∨ one = 1) (h : other = if k % 2 = 0 then one else 1 - one) : bendP (mvP k b p) (mvP k b q) other = mvP k b (bendP p q one) := by
  subst h
  rcases hk with rfl | rfl | rfl | rfl <;> rcases ho with rfl | rfl <;> simp [bendP, mvP, rot_0, rot_1, rot_2, rot_3]
theorem mv_le {k : Int} (hk : quarter k) {b p : Pt} (hb : (-200 ≤ b.X ∧ b.X ≤ 200) ∧ -200 ≤ b.Y ∧ b.Y ≤ 200) (hp : (-200 ≤ p.X ∧ p.X ≤ 200) ∧ -200 ≤ p.Y ∧ p.Y ≤ 200) : (-400 ≤ (mvP k b p).X ∧ (mvP k b p).X ≤ 400) ∧ -400 ≤ (mvP k b p).Y ∧ (mvP k b p).Y ≤ 400 := by
  rcases hk with rfl | rfl | rfl | rfl <;> simp only [mvP, rot_0, rot_1, rot_2, rot_3] <;> omega
theorem near_in {p : Pt} (h : (-400 ≤ p.X ∧ p.X ≤ 400) ∧ -400 ≤ p.Y ∧ p.Y ≤ 400) : nearP p = p := by
  simp only [nearP, ext_Pt]; omega
theorem through_mv {k : Int} (hk : quarter k) {b p q : Pt} (hb : small b 200 = true) (hp : small p 200 = true) (hq : small q 200 = true) {a : Ais} (ha : proper a) {one other : Int} (ho : one = 0 ∨ one = 1) (h : other = if k % 2 = 0 then one else 1 - one) :
    through (mvP k b p) (mvP k b q) other (mvA k b a) = through p q one a := by
  unfold through
  rw [near_in (mv_le hk (small_in hb) (small_in hp)), near_in (mv_le hk (small_in hb) (small_in hq)), small_200 hp, small_200 hq, bend_mv hk b p q ho h, meets_blk hk b ha, meets_blk hk b ha]
/-- What is so of all. -/
def smallL (l : List Ais) (n : Int) : Bool := l.all fun a => small a.Low n && small a.High n
theorem plan_proper {l : List Ais} (h : planOk l = true) : ∀ a ∈ l, proper a := fun a ha => by
  simp only [planOk, Bool.and_eq_true] at h
  have := ((planG_spec l 0 [] h.2).1 a ha).2.1
  exact ⟨this.2.2.1, this.2.2.2.1⟩
theorem small_of {p : Pt} (h : (-400 ≤ p.X ∧ p.X ≤ 400) ∧ -400 ≤ p.Y ∧ p.Y ≤ 400) : small p 1000 = true := by
  simp [small]; omega
theorem planG_mv {k : Int} (hk : quarter k) {b : Pt} (hb : small b 200 = true) : ∀ (r : List Ais) (last : Int) (pre : List Ais), (∀ a ∈ r, proper a ∧ small a.Low 200 = true ∧ small a.High 200 = true) → (∀ a ∈ pre, proper a) → planG last pre r = true → planG last (pre.map (mvA k b)) (r.map (mvA k b)) = true
  | [], _, _, _, _, _ => rfl
  | a :: r, last, pre, hr, hpre, h => by
    simp only [planG, Bool.and_eq_true] at h
    obtain ⟨h1, h2⟩ := h
    obtain ⟨g1, g2, g3⟩ := hr a (by simp)
    simp only [List.map_cons, planG, Bool.and_eq_true]
    refine ⟨?_, ?_⟩
    · simp only [aisOk, Bool.and_eq_true, decide_eq_true_eq, Bool.not_eq_true', List.any_eq_false, Bool.not_eq_true] at h1 ⊢
      have l1 := mv_le hk (small_in hb) (small_in g2)
      have l2 := mv_le hk (small_in hb) (small_in g3)
      refine ⟨⟨⟨⟨⟨⟨h1.1.1.1.1.1.1, h1.1.1.1.1.1.2⟩, small_of ?_⟩, small_of ?_⟩, ?_⟩, ?_⟩, fun x hx => ?_⟩
      · simp only [mvA, blockP]; omega
      · simp only [mvA, blockP]; omega
      · simp only [mvA, blockP]; omega
      · simp only [mvA, blockP]; omega
      · obtain ⟨y, hy, rfl⟩ := List.mem_map.1 hx
        rw [meets_mv hk b g1 (hpre y hy)]
        exact h1.2 y hy
    · have := planG_mv hk hb r a.ID (pre ++ [a]) (fun x hx => hr x (by simp [hx])) (fun x hx => by
        rcases List.mem_append.1 hx with hx | hx
        · exact hpre x hx
        · simp at hx; subst hx; exact g1) h2
      show planG a.ID _ _ = true
      simpa using this
theorem plan_mv {k : Int} (hk : quarter k) {b : Pt} (hb : small b 200 = true) {l : List Ais} (h : planOk l = true) (hs : smallL l 200 = true) : planOk (l.map (mvA k b)) = true := by
  have hp := plan_proper h
  simp only [planOk, Bool.and_eq_true, decide_eq_true_eq] at h ⊢
  simp only [smallL, List.all_eq_true, Bool.and_eq_true] at hs
  exact ⟨by simpa using h.1, planG_mv hk hb l 0 [] (fun a ha => ⟨hp a ha, hs a ha⟩) (fun a ha => by simp at ha) h.2⟩
theorem find_mv {k : Int} (hk : quarter k) (b p : Pt) : ∀ {l : List Ais}, (∀ a ∈ l, proper a) → ((l.map (mvA k b)).find? fun a => hasP a (mvP k b p)) = (l.find? fun a => hasP a p).map (mvA k b)
  | [], _ => rfl
  | a :: l, h => by
    rw [List.map_cons, List.find?_cons, List.find?_cons, has_mv hk b (h a (by simp)) p]
    cases hasP a p
    · exact find_mv hk b p fun x hx => h x (by simp [hx])
    · rfl
theorem at_mv {k : Int} (hk : quarter k) (b p : Pt) {l : List Ais} (h : ∀ a ∈ l, proper a) : atL (l.map (mvA k b)) (mvP k b p) = atL l p := by
  unfold atL
  rw [find_mv hk b p h]
  cases l.find? fun a => hasP a p <;> rfl
theorem crossI_mv {k : Int} (hk : quarter k) {b p q : Pt} (hb : small b 200 = true) (hp : small p 200 = true) (hq : small q 200 = true) {one other : Int} (ho : one = 0 ∨ one = 1) (h : other = if k % 2 = 0 then one else 1 - one) :
    ∀ {l : List Ais}, (∀ a ∈ l, proper a) → crossI (l.map (mvA k b)) (mvP k b p) (mvP k b q) other = crossI l p q one
  | [], _ => rfl
  | a :: l, hl => by
    have ih := crossI_mv hk hb hp hq ho h (l := l) fun x hx => hl x (by simp [hx])
    simp only [crossI] at ih ⊢
    rw [List.map_cons, List.filter_cons, List.filter_cons, through_mv hk hb hp hq (hl a (by simp)) ho h]
    split
    · rw [List.map_cons, List.map_cons, ih]; rfl
    · exact ih
theorem mov_mv {m : Mot} {l : List Ais} (hm : small m.By 200 = true) (hs : smallL l 200 = true) : movL m l = l.map (mvA (m.Turn % 4) m.By) := by
  simp only [smallL, List.all_eq_true, Bool.and_eq_true] at hs
  refine List.map_congr_left fun a ha => ?_
  obtain ⟨h1, h2⟩ := hs a ha
  simp only [movA, mvA, do_mv hm h1, do_mv hm h2]
/-! ### walked -/
theorem det_r04_Small (m : Mot) (n : Int) (hn : -9223372036854775807 ≤ n ∧ n ≤ 9223372036854775807) : Det Try.prog 25 [en m, en n] [] (.bool (small m.By n)) [] := by
  refine det_finF mixed0 (knows_cons known_Small knows_nil) ok_r04_Small 1 (by simp) ?_
  simp [ic_r04_Small, rs_r04_Small, cSmall, hn, vcLoose, heapsOf]
def cSmallM : Ctr := C2 (fun (m : Mot) (n : Int) => -9223372036854775807 ≤ n ∧ n ≤ 9223372036854775807) fun m n => .bool (small m.By n)
theorem known_r04_Small : Known Try.prog 25 cSmallM := known_C2 (fun m n h => det_r04_Small m n h) fun m n => flat_bool _
theorem smallL_nil (n : Int) : smallL [] n = true := rfl
theorem smallL_cons (a : Ais) (r : List Ais) (n : Int) : smallL (a :: r) n = (small a.Low n && small a.High n && smallL r n) := by simp [smallL]
attribute [local irreducible] smallL small in
theorem det_r07_Small (l : List Ais) (n : Int) (hl : l.length ≤ 9223372036854775807) (hn : -9223372036854775807 ≤ n ∧ n ≤ 9223372036854775807) : Det Try.prog 24 [en l, en n] [] (.bool (smallL l n)) [] := by
  refine det_finF mixed0 (knows_cons known_Small knows_nil) ok_r07_Small 1 (by simp) ?_
  simp [ic_r07_Small, rs_r07_Small]
  refine LoopC.scanB Ais.zero l (fun i (_ : Unit) => ⟨[(0, .view (l.map Cel.c)), (1, .int .i64 n), (5, .int .i64 i)], []⟩) (fun i _ r => smallL l n = smallL r n) () (by simp) (by simp) rfl (fun i a r b hi ha hd hG => ?_) fun b hG => ?_
  · rw [smallL_cons] at hG
    rw [hG]
    cases h1 : small a.Low n
    · simp [hi, ha, cSmall, hn, vcLoose, heapsOf, h1]
    · cases h2 : small a.High n
      · simp [hi, ha, cSmall, hn, vcLoose, heapsOf, h1, h2]
      · simp [hi, ha, cSmall, hn, vcLoose, heapsOf, h1, h2]
        omega
  · rw [smallL_nil] at hG
    simp [hG]
def cSmallL : Ctr := C2 (fun (l : List Ais) (n : Int) => l.length ≤ 9223372036854775807 ∧ -9223372036854775807 ≤ n ∧ n ≤ 9223372036854775807) fun l n => .bool (smallL l n)
theorem known_r07_Small : Known Try.prog 24 cSmallL := known_C2 (fun l n h => det_r07_Small l n h.1 h.2) fun l n => flat_bool _
attribute [local irreducible] crossL atL planOk small smallL doP movL
set_option maxRecDepth 40000 in
set_option maxHeartbeats 8000000 in
theorem det_PlanTurns (l : List Ais) (wl : Rd.wf l) (m : Mot) (wm : Rd.wf m) (p : Pt) (wp : Rd.wf p) (q : Pt) (wq : Rd.wf q) (how : Bool) (wh : Rd.wf how) : Det Try.prog 6 [en l, en m, en p, en q, en how] [] (.bool true) [] := by
  refine det_finF mixed0 (knows_cons known_07alive (knows_cons known_r07_Right (knows_cons known_PlanRight (knows_cons known_r07_Small (knows_cons known_r04_Small (knows_cons known_Small (knows_cons known_Moved (knows_cons known_motion_Do (knows_cons known_PlanAt (knows_cons known_Cross (knows_cons known_Ints knows_nil))))))))))) ok_l07_PlanTurns 1 (by simp) ?_
  have hl : l.length ≤ 9223372036854775807 := by simp at wl; omega
  clear wl
  by_cases hg : planOk l = true ∧ smallL l 200 = true ∧ small m.By 200 = true ∧ small p 200 = true ∧ small q 200 = true
  · obtain ⟨g1, g2, g3, g4, g5⟩ := hg
    have hl32 : l.length ≤ 32 := by
      have := g1
      unfold planOk at this
      simp at this; exact this.1
    have hl2 : l.length ≤ 1073741824 := by omega
    have hl3 : l.length ≤ 1000 := by omega
    have hk : quarter (m.Turn % 4) := by unfold quarter; omega
    have hp := plan_proper g1
    have e1 := mov_mv g3 g2
    have e2 := do_mv g3 g4
    have e3 := do_mv g3 g5
    have p1 : planOk (movL m l) = true := by rw [e1]; exact plan_mv hk g3 g1 g2
    have p2 : atL (movL m l) (doP m p) = atL l p := by rw [e1, e2]; exact at_mv hk m.By p hp
    have p3 : ∀ one other : Int, (one = 0 ∨ one = 1) → (other = if m.Turn % 4 % 2 = 0 then one else 1 - one) → crossL (movL m l) (doP m p) (doP m q) other = crossL l p q one := fun one other h1 h2 => by
      unfold crossL
      rw [e1, e2, e3, crossI_mv hk g3 g4 g5 h1 h2 hp]
    have p4 : (movL m l).length = l.length := by unfold movL; simp
    clear e1 e2 e3
    have hL : (movL m l).length ≤ 9223372036854775807 := by omega
    have hL2 : (movL m l).length ≤ 1073741824 := by omega
    have hC : ∀ one, (crossL l p q one).length ≤ 9223372036854775807 := fun one => by have := crossL_len l p q one; omega
    have hpar : m.Turn.tmod 2 = 0 ↔ m.Turn % 4 % 2 = 0 := by
      rw [← Int.dvd_iff_tmod_eq_zero]; omega
    by_cases hpr : m.Turn % 4 % 2 = 0
    · have h0 := hpar.2 hpr
      cases how
      · have c1 := p3 0 0 (.inl rfl) (by rw [if_pos hpr])
        simp [ic_l07_PlanTurns, rs_l07_PlanTurns, c07Alive, cPlanRight, cSmallL, cSmallM, cSmall, cMoved, cDo, cPlanAt, cCross, cInts, hl, hl2, hl3, hL, hL2, g1, g2, g3, g4, g5, p1, p2, c1, hC, h0, vcLoose, heapsOf]
      · have c1 := p3 1 1 (.inr rfl) (by rw [if_pos hpr])
        simp [ic_l07_PlanTurns, rs_l07_PlanTurns, c07Alive, cPlanRight, cSmallL, cSmallM, cSmall, cMoved, cDo, cPlanAt, cCross, cInts, hl, hl2, hl3, hL, hL2, g1, g2, g3, g4, g5, p1, p2, c1, hC, h0, vcLoose, heapsOf]
    · have h0 : ¬ m.Turn.tmod 2 = 0 := fun h => hpr (hpar.1 h)
      cases how
      · have c1 := p3 0 1 (.inl rfl) (by rw [if_neg hpr]; rfl)
        simp [ic_l07_PlanTurns, rs_l07_PlanTurns, c07Alive, cPlanRight, cSmallL, cSmallM, cSmall, cMoved, cDo, cPlanAt, cCross, cInts, hl, hl2, hl3, hL, hL2, g1, g2, g3, g4, g5, p1, p2, c1, hC, h0, vcLoose, heapsOf]
      · have c1 := p3 1 0 (.inr rfl) (by rw [if_neg hpr]; rfl)
        simp [ic_l07_PlanTurns, rs_l07_PlanTurns, c07Alive, cPlanRight, cSmallL, cSmallM, cSmall, cMoved, cDo, cPlanAt, cCross, cInts, hl, hl2, hl3, hL, hL2, g1, g2, g3, g4, g5, p1, p2, c1, hC, h0, vcLoose, heapsOf]
  · simp [ic_l07_PlanTurns, rs_l07_PlanTurns, c07Alive, cPlanRight, cSmallL, cSmallM, cSmall, hl, vcLoose, heapsOf]
    exact fun a b c d e => absurd ⟨a, b, c, d, e⟩ hg
end Go.Proofs.Ytjpgnicgapkndaa.Sx
