/- Whether aisles are a plan, and whether rules may be: the program and the document's answer. No conditions: a kit of our own. -/
import Derived.Test.YtnckibgcjgeekaaGreatFnC2
namespace Go.Proofs.YtnckibgcjgeekaaGreat.Sx
open Go Go.RowKit
set_option linter.unusedVariables false
set_option linter.unusedSimpArgs false

/-- A point in an aisle. -/
def hasP (a : Ais) (p : Pt) : Bool := decide (a.Low.X ≤ p.X) && decide (p.X ≤ a.High.X) && decide (a.Low.Y ≤ p.Y) && decide (p.Y ≤ a.High.Y)
/-- Two aisles meet. -/
def meets (a b : Ais) : Bool := decide (max a.Low.X b.Low.X ≤ min a.High.X b.High.X) && decide (max a.Low.Y b.Low.Y ≤ min a.High.Y b.High.Y)
def nearP (p : Pt) : Pt := ⟨max (min p.X 1000) (-1000), max (min p.Y 1000) (-1000)⟩
theorem det_plan_inside (a : Ais) (p : Pt) : Det Tryz.prog 133 [en a, en p] [] (.bool (hasP a p)) [] := by
  refine det_finF mixed0 knows_nil ok_plan_inside 1 (by simp) ?_
  simp [ic_plan_inside, rs_plan_inside, hasP]
  rw [Bool.eq_iff_iff]
  simp
  omega
def cInside : Ctr := C2 (fun (a : Ais) (p : Pt) => True) fun a p => .bool (hasP a p)
theorem known_Inside : Known Tryz.prog 133 cInside := known_C2 (fun a p _ => det_plan_inside a p) fun a p => flat_bool _
theorem det_plan_Meet (a b : Ais) : Det Tryz.prog 136 [en a, en b] [] (.bool (meets a b)) [] := by
  refine det_finF mixed0 (knows_cons known_Inside knows_nil) ok_plan_Meet 1 (by simp) ?_
  simp [ic_plan_Meet, rs_plan_Meet, cInside, hasP, meets]
  have mx : ∀ a b : Int, (if a < b then b else a) = max a b := fun a b => by split <;> omega
  have mn : ∀ a b : Int, (if b < a then b else a) = min a b := fun a b => by split <;> omega
  simp only [mx, mn]
def cMeet : Ctr := C2 (fun (a b : Ais) => True) fun a b => .bool (meets a b)
theorem known_Meet : Known Tryz.prog 136 cMeet := known_C2 (fun a p _ => det_plan_Meet a p) fun a p => flat_bool _
theorem det_plan_near (p : Pt) : Det Tryz.prog 147 [en p] [] (en (nearP p)) [] := by
  refine det_finF mixed0 knows_nil ok_plan_near 2 (by simp) ?_
  simp [ic_plan_near, rs_plan_near, nearP]
  try omega
def cNear : Ctr := V1 (fun p : Pt => True) fun p => en (nearP p)
theorem known_Near : Known Tryz.prog 147 cNear := known_V1 (fun p _ => det_plan_near p) fun p _ => closed_en _
theorem det_plan_wide (p : Pt) : Det Tryz.prog 132 [en p] [] (.bool (small p 1000)) [] := by
  refine det_finF mixed0 (knows_cons known_Near knows_nil) ok_plan_wide 1 (by simp) ?_
  simp [ic_plan_wide, rs_plan_wide, cNear, nearP, small, vcLoose]
  rw [Bool.eq_iff_iff]
  simp
  omega
def cWide : Ctr := C1 (fun p : Pt => True) fun p => .bool (small p 1000)
theorem known_Wide : Known Tryz.prog 132 cWide := known_C1 (fun p _ => det_plan_wide p) fun p => flat_bool _
theorem det_Right1 (b : Ais) (a : Bx Ais) : Det Tryz.prog 135 [en b, en a] [] (.bool (meets a.v b)) [] := by
  refine det_finF mixed0 (knows_cons known_Meet knows_nil) ok_plan_Right_1 1 (by simp) ?_
  simp [ic_plan_Right_1, rs_plan_Right_1, cMeet]
def cRight1 : Ctr := C2 (fun (b : Ais) (a : Bx Ais) => True) fun b a => .bool (meets a.v b)
theorem known_Right1 : Known Tryz.prog 135 cRight1 := known_C2 (fun b a _ => det_Right1 b a) fun b a => flat_bool _
abbrev QRight1 : Type := Clo1 135 Ais
theorem det_IndexAisle (l : List Ais) (q : QRight1) (hl : l.length ≤ 9223372036854775807) : Det Tryz.prog 148 [en l, en q] [] (.int .i64 (fidx (meets q.v) l 0)) [] := by
  refine det_finF mixed0 (knows_cons known_Right1 knows_nil) ok_slices_IndexFunc_api_Aisle_api_Aisle 1 (by simp) ?_
  simp [ic_slices_IndexFunc_api_Aisle_api_Aisle, rs_slices_IndexFunc_api_Aisle_api_Aisle]
  refine LoopC.scanB Ais.zero l (fun i (_ : Unit) => ⟨[(0, .view (l.map Cel.c)), (1, en q), (7, .int .i64 l.length), (8, .int .i64 i)], []⟩) (fun i _ r => fidx (meets q.v) l 0 = fidx (meets q.v) r i) () (fun _ _ _ _ _ => ⟨Nat.zero_le _, ⟨lowTm_cons (low_viewc l) (lowTm_cons (low_en q) (lowTm_cons (low_int _ _) (lowTm_cons (low_int _ _) (lowTm_nil _)))), fun o h => by simp at h⟩⟩) (by simp) rfl (fun i a r b hi ha hd hG => ?_) fun b hG => ?_
  · rw [hG]
    cases he : meets q.v a
    · simp [hi, ha, cRight1, fidx, vcLoose, he]; omega
    · simp [hi, ha, cRight1, fidx, vcLoose, he]
  · rw [hG]
    simp [fidx]
def cIndexAisle : Ctr := C2 (fun (l : List Ais) (q : QRight1) => l.length ≤ 9223372036854775807) fun l q => .int .i64 (fidx (meets q.v) l 0)
theorem known_IndexAisle : Known Tryz.prog 148 cIndexAisle := known_C2 (fun l q h => det_IndexAisle l q h) fun l q => flat_int _ _
theorem fidx_any {α : Type} (p : α → Bool) : ∀ (l : List α) (i : Int), 0 ≤ i → decide (0 ≤ fidx p l i) = l.any p
  | [], i, h => by simp [fidx]
  | x :: r, i, h => by
    simp only [fidx, List.any_cons]
    by_cases hx : p x = true
    · simp [hx, h]
    · have := fidx_any p r (i + 1) (by omega)
      simp [hx, this]
theorem det_ContainsAisle (l : List Ais) (q : QRight1) (hl : l.length ≤ 9223372036854775807) : Det Tryz.prog 134 [en l, en q] [] (.bool (l.any (meets q.v))) [] := by
  refine det_finF mixed0 (knows_cons known_IndexAisle knows_nil) ok_slices_ContainsFunc_api_Aisle_api_Aisle 1 (by simp) ?_
  rw [← fidx_any _ l 0 (by omega)]
  simp [ic_slices_ContainsFunc_api_Aisle_api_Aisle, rs_slices_ContainsFunc_api_Aisle_api_Aisle, cIndexAisle, hl]
def cContainsAisle : Ctr := C2 (fun (l : List Ais) (q : QRight1) => l.length ≤ 9223372036854775807) fun l q => .bool (l.any (meets q.v))
theorem known_ContainsAisle : Known Tryz.prog 134 cContainsAisle := known_C2 (fun l q h => det_ContainsAisle l q h) fun l q => flat_bool _
/-- What is to be of an aisle behind the ID last and the aisles pre. -/
def aisOk (last : Int) (pre : List Ais) (a : Ais) : Bool := decide (last < a.ID) && decide (a.ID ≤ 999) && small a.Low 1000 && small a.High 1000 && decide (a.Low.X ≤ a.High.X) && decide (a.Low.Y ≤ a.High.Y) && !pre.any (meets a)
def planG : Int → List Ais → List Ais → Bool
  | _, _, [] => true
  | last, pre, a :: r => aisOk last pre a && planG a.ID (pre ++ [a]) r
def planOk (l : List Ais) : Bool := decide (l.length ≤ 32) && planG 0 [] l
theorem hasLow (a : Ais) : hasP a a.Low = (decide (a.Low.X ≤ a.High.X) && decide (a.Low.Y ≤ a.High.Y)) := by simp [hasP]
theorem take_snoc {l : List Ais} {i : Nat} {a : Ais} {r : List Ais} (hi : i < l.length) (hd : l.drop i = a :: r) : l.take (i + 1) = l.take i ++ [a] := by
  have h1 := List.drop_eq_getElem_cons hi
  rw [hd] at h1
  simp only [List.cons.injEq] at h1
  rw [h1.1, List.take_append_getElem]
theorem det_plan_Right (l : List Ais) (hl : l.length ≤ 9223372036854775807) : Det Tryz.prog 92 [en l] [] (.bool (planOk l)) [] := by
  refine det_finF mixed0 (knows_cons known_Wide (knows_cons known_Inside (knows_cons known_ContainsAisle knows_nil))) ok_plan_Right 1 (by simp) ?_
  simp [ic_plan_Right, rs_plan_Right]
  refine BackC.scanB Ais.zero l (fun (i : Nat) (b : Int) => ⟨[(0, .view (l.map Cel.c)), (3, .int .i64 b), (4, .int .i64 i)], []⟩) (fun i b r => l.length ≤ 32 ∧ planOk l = planG b (l.take i) r) (by simp) ?_ (fun i a r b hi ha hd ⟨h32, hG⟩ => ?_) fun b ⟨h32, hG⟩ => ?_
  · simp
    by_cases h : l.length ≤ 32
    · have h' : ¬ 32 < l.length := by omega
      simp [h, h', planOk]
    · have h' : 32 < l.length := by omega
      simp [h, h', planOk]
  · have hne : ¬ i = l.length := by omega
    simp only [planG] at hG
    rw [← take_snoc hi hd] at hG
    by_cases h1 : aisOk b (l.take i) a = true
    · have h2 := h1
      rw [h1] at hG
      simp only [aisOk, Bool.and_eq_true, decide_eq_true_eq, Bool.not_eq_true'] at h2
      obtain ⟨⟨⟨⟨⟨⟨k1, k2⟩, k3⟩, k4⟩, k5⟩, k6⟩, k7⟩ := h2
      have k1' : ¬ a.ID ≤ b := by omega
      have k2' : ¬ 999 < a.ID := by omega
      simp [hi, ha, hne, cWide, cInside, cContainsAisle, hasLow, k1', k2', k3, k4, k5, k6, k7]
      exact ⟨by omega, ⟨fun x hx => (by obtain ⟨y, _, rfl⟩ := List.mem_map.1 (List.mem_of_mem_take hx); exact Cel.ok_c _ _), by omega⟩, by omega, h32, by simpa using hG⟩
    · simp only [Bool.not_eq_true] at h1
      rw [h1] at hG
      simp only [Bool.false_and] at hG
      simp [hi, ha, hne, cWide, cInside, cContainsAisle, hasLow]
      exact ⟨fun _ => hG, fun k1 k2 k3 k4 k5 k6 => ⟨by omega, ⟨fun x hx => (by obtain ⟨y, _, rfl⟩ := List.mem_map.1 (List.mem_of_mem_take hx); exact Cel.ok_c _ _), by omega⟩, fun _ _ _ => hG, fun k7 => absurd h1 (by simp [aisOk, k1, k2, k3, k4, k5, k6]; exact k7)⟩⟩
  · simp [hG, planG]
def cPlanRight : Ctr := C1 (fun l : List Ais => l.length ≤ 9223372036854775807) fun l => .bool (planOk l)
theorem known_PlanRight : Known Tryz.prog 92 cPlanRight := known_C1 (fun l h => det_plan_Right l h) fun l => flat_bool _

theorem det_r07_Has (a : Ais) (p : Pt) : Det Tryz.prog 145 [en a, en p] [] (.bool (hasP a p)) [] := by
  refine det_finF mixed0 knows_nil ok_r07_Has 1 (by simp) ?_
  simp [ic_r07_Has, rs_r07_Has, hasP]
theorem known_r07_Has : Known Tryz.prog 145 cInside := known_C2 (fun a p _ => det_r07_Has a p) fun a p => flat_bool _
theorem mxI (a b : Int) : (if a < b then b else a) = max a b := by split <;> omega
theorem meets_has (a b : Ais) : (hasP a ⟨max a.Low.X b.Low.X, max a.Low.Y b.Low.Y⟩ && hasP b ⟨max a.Low.X b.Low.X, max a.Low.Y b.Low.Y⟩) = meets a b := by
  rw [Bool.eq_iff_iff]
  simp [hasP, meets]
  omega
theorem det_r07_Meet (a b : Ais) : Det Tryz.prog 130 [en a, en b] [] (.bool (meets a b)) [] := by
  refine det_finF mixed0 (knows_cons known_r07_Has knows_nil) ok_r07_Meet 1 (by simp) ?_
  rw [← meets_has]
  simp [ic_r07_Meet, rs_r07_Meet, cInside, mxI]
theorem known_r07_Meet : Known Tryz.prog 130 cMeet := known_C2 (fun a p _ => det_r07_Meet a p) fun a p => flat_bool _
theorem meets_comm (a b : Ais) : meets a b = meets b a := by
  rw [Bool.eq_iff_iff]
  simp [meets]
  omega
theorem nth_take_lt {α : Type} {l : List α} {i k : Nat} {d : α} (h : k < i) (hi : i ≤ l.length) : nth (l.take i) k d = nth l k d := by
  rw [nth_get (by simp; omega), nth_get (by omega)]; simp
set_option maxRecDepth 8000 in
theorem det_r07_Right (l : List Ais) (hl : l.length ≤ 9223372036854775807) : Det Tryz.prog 82 [en l] [] (.bool (planOk l)) [] := by
  refine det_finF mixed0 (knows_cons known_Small (knows_cons known_r07_Meet knows_nil)) ok_r07_Right 1 (by simp) ?_
  simp [ic_r07_Right, rs_r07_Right]
  refine ⟨fun h => by simp [planOk]; omega, fun h32 => ?_⟩
  have hP : planOk l = planG 0 [] l := by simp [planOk, h32]
  refine LoopC.scanB Ais.zero l (fun (i : Nat) (b : Int) => ⟨[(0, .view (l.map Cel.c)), (3, .int .i64 i)], []⟩) (fun i b r => ((i = 0 ∧ b = 0) ∨ (0 < i ∧ b = (nth l (i - 1) Ais.zero).ID ∧ 1 ≤ b)) ∧ planOk l = planG b (l.take i) r) 0 (by simp) (by simp) (by simp [hP]) (fun i a r b hi ha hd ⟨hb, hG⟩ => ?_) fun b ⟨hb, hG⟩ => ?_
  · simp only [planG] at hG
    rw [← take_snoc hi hd] at hG
    simp [hi, ha, cSmall, vcLoose, heapsOf]
    have hor : (0 < i → (nth l (i - 1) Ais.zero).ID < a.ID) → i = 0 ∨ (nth l (i - 1) Ais.zero).ID < a.ID := fun h => by
      rcases Nat.eq_zero_or_pos i with h0 | h0
      · exact .inl h0
      · exact .inr (h h0)
    refine ⟨fun _ _ _ => by omega, fun _ _ _ => by omega, fun _ _ h => hor h, fun h1 h2 h3 _ => ⟨⟨h1, h2⟩, hor h3⟩, fun h1 h2 h3 _ _ => ⟨⟨h1, h2⟩, hor h3⟩, fun h1 h2 h3 h4 _ _ => ⟨⟨⟨h1, h2⟩, hor h3⟩, h4⟩, fun h => ?_, fun k1 k2 k3 k4 k5 k6 k7 => ?_⟩
    · rw [hG]
      cases hA : aisOk b (l.take i) a
      · simp
      · exfalso
        simp only [aisOk, Bool.and_eq_true, decide_eq_true_eq, Bool.not_eq_true'] at hA
        obtain ⟨⟨⟨⟨⟨⟨m1, m2⟩, m3⟩, m4⟩, m5⟩, m6⟩, m7⟩ := hA
        rw [m3, m4] at h
        simp at h
        omega
    · have hb' : b < a.ID := by
        rcases hb with ⟨_, h⟩ | ⟨h0, h, _⟩
        · omega
        · have := k3 h0; omega
      have hA : aisOk b (l.take i) a = !(l.take i).any (meets a) := by simp [aisOk, hb', k2, k4, k5, k6, k7]
      rw [hA] at hG
      have hlen : (l.take i).length = i := by simp; omega
      refine LoopC.scan Ais.zero (l.take i) (fun k : Nat => ⟨[(0, .view (l.map Cel.c)), (3, .int .i64 i), (4, .ptr 0 0 0), (5, .int .i64 k)], [.rows 5 [Cel.c a]]⟩) (fun r' => (l.take i).any (meets a) = r'.any (meets a)) (by simp) (by simp) rfl (fun k x r' hk hx hG' => ?_) fun hG' => ?_
      · rw [hlen] at hk
        rw [nth_take_lt hk (by omega)] at hx
        have hkl : k < l.length := by omega
        rw [hG', List.any_cons, meets_comm a x] at hG
        rw [List.any_cons, meets_comm a x] at hG'
        cases hm : meets x a
        · simp [hk, hkl, hx, cMeet, hm, vcLoose]
          rw [hm] at hG'
          simpa using ⟨by omega, hG'⟩
        · rw [hm] at hG
          simp [hk, hkl, hx, cMeet, hm, vcLoose, hG]
      · rw [hG'] at hG
        simp at hG
        simp [hlen, hG]
        refine ⟨by omega, a.ID, ?_, rfl⟩
        simp [ha]
        omega
  · simp [hG, planG]
theorem known_r07_Right : Known Tryz.prog 82 cPlanRight := known_C1 (fun l h => det_r07_Right l h) fun l => flat_bool _
theorem det_r22_within (n a b : Int) : Det Tryz.prog 81 [en n, en a, en b] [] (.bool (inR a b n)) [] := by
  refine det_finF mixed0 knows_nil ok_r22_within 1 (by simp) ?_
  simp [ic_r22_within, rs_r22_within, inR]
def cr22_within : Ctr := C3 (fun n a b : Int => True) fun n a b => .bool (inR a b n)
theorem known_r22_within : Known Tryz.prog 81 cr22_within := known_C3 (fun n a b _ => det_r22_within n a b) fun n a b => flat_bool _
def rulOk (r : Rul) : Bool := inR 1 64 r.Tasks && inR 1 16 r.Crew && inR 1 16 r.Units && inR 1 1000 r.Lease && inR 1 64 r.Tries && inR 0 1048576 r.Rate && inR 0 2147483647 r.Start
def rulErr (r : Rul) : Int := if rulOk r then if planOk r.Aisles then 0 else 1 else 2
theorem det_r22_Rules (r : Rul) (hr : r.Aisles.length ≤ 9223372036854775807) : Det Tryz.prog 50 [en r] [] (.int .i64 (rulErr r)) [] := by
  refine det_finF mixed0 (knows_cons known_r22_within (knows_cons known_r07_Right knows_nil)) ok_r22_Rules 1 (by simp) ?_
  simp [ic_r22_Rules, rs_r22_Rules, cr22_within, cPlanRight, hr]
  have e : rulErr r = if rulOk r then if planOk r.Aisles then 0 else 1 else 2 := rfl
  simp only [rulOk, Bool.and_eq_true] at e
  grind
def cRules : Ctr := C1 (fun r : Rul => r.Aisles.length ≤ 9223372036854775807) fun r => .int .i64 (rulErr r)
theorem known_r22_Rules : Known Tryz.prog 50 cRules := known_C1 (fun l h => det_r22_Rules l h) fun l => flat_int _ _
theorem det_task_Rules (r : Rul) (hr : r.Aisles.length ≤ 9223372036854775807) : Det Tryz.prog 54 [en r] [] (.int .i64 (rulErr r)) [] := by
  refine det_finF mixed0 (knows_cons known_TaskAll (knows_cons known_PlanRight knows_nil)) ok_task_Rules 1 (by simp) ?_
  simp [ic_task_Rules, rs_task_Rules, cTaskAll, cPlanRight, hr]
  have e : rulErr r = if rulOk r then if planOk r.Aisles then 0 else 1 else 2 := rfl
  simp only [rulOk, inR, Bool.and_eq_true, decide_eq_true_eq] at e
  simp only [inB, Bool.and_eq_true, decide_eq_true_eq]
  grind
theorem known_task_Rules : Known Tryz.prog 54 cRules := known_C1 (fun l h => det_task_Rules l h) fun l => flat_int _ _
end Go.Proofs.YtnckibgcjgeekaaGreat.Sx
