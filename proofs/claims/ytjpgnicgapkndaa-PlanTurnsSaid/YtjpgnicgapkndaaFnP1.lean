/- Package plan: legs, block, Cross, At. No conditions: a kit of our own. -/
import Derived.Test.YtjpgnicgapkndaaFnC4
import Derived.Test.YtjpgnicgapkndaaSrt3
import Derived.Test.YtjpgnicgapkndaaIrP
namespace Go.Proofs.Ytjpgnicgapkndaa.Sx
open Go Go.RowKit
set_option linter.unusedVariables false
set_option linter.unusedSimpArgs false

/-- All points between two. -/
def blockP (p q : Pt) : Ais := ⟨0, ⟨min p.X q.X, min p.Y q.Y⟩, ⟨max p.X q.X, max p.Y q.Y⟩⟩
/-- Where a way bends. -/
def bendP (a b : Pt) (how : Int) : Pt := if how = 1 then ⟨a.X, b.Y⟩ else ⟨b.X, a.Y⟩
theorem det_plan_block (p q : Pt) : Det Try.prog 40 [en p, en q] [] (en (blockP p q)) [] := by
  refine det_finF mixed0 knows_nil ok_plan_block 2 (by simp) ?_
  simp [ic_plan_block, rs_plan_block, blockP]
  omega
def cBlock : Ctr := V2 (fun p q : Pt => True) fun p q => en (blockP p q)
theorem known_Block : Known Try.prog 40 cBlock := known_V2 (fun p q _ => det_plan_block p q) fun p q _ => closed_en _
theorem det_plan_legs (p q : Pt) (how : Int) : Det Try.prog 36 [en p, en q, en how] [] (.tup [en (nearP p), en (bendP (nearP p) (nearP q) how), en (nearP q)]) [] := by
  refine det_finF mixed0 (knows_cons known_Near knows_nil) ok_plan_legs 2 (by simp) ?_
  simp [ic_plan_legs, rs_plan_legs, cNear, bendP, vcLoose, heapsOf]
  constructor <;> intro h <;> simp [h]
def cLegs : Ctr := V3 (fun (p q : Pt) (how : Int) => True) fun p q how => .tup [en (nearP p), en (bendP (nearP p) (nearP q) how), en (nearP q)]
theorem known_Legs : Known Try.prog 36 cLegs := known_V3 (fun p q how _ => det_plan_legs p q how) fun p q how _ => closed_tupl (fun a ha => by simp only [List.mem_cons, List.not_mem_nil, or_false] at ha; rcases ha with rfl | rfl | rfl <;> exact closed_en _)
/-- Whether a way goes through an aisle. -/
def through (p q : Pt) (how : Int) (x : Ais) : Bool := meets x (blockP (nearP p) (bendP (nearP p) (nearP q) how)) || meets x (blockP (bendP (nearP p) (nearP q) how) (nearP q))
def crossI (l : List Ais) (p q : Pt) (how : Int) : List Int := (l.filter (through p q how)).map (·.ID)
def crossL (l : List Ais) (p q : Pt) (how : Int) : List Int := comp (sorted (crossI l p q how))
theorem det_plan_Cross (l : List Ais) (p q : Pt) (how : Int) (hl : l.length ≤ 1073741824) : Det Try.prog 19 [en l, en p, en q, en how] [] (en (crossL l p q how)) [] := by
  refine det_finF mixed0 (knows_cons known_Legs (knows_cons known_Block (knows_cons known_Meet (knows_cons known_SortB (knows_cons known_CompactB knows_nil))))) ok_plan_Cross 2 (by simp) ?_
  simp [ic_plan_Cross, rs_plan_Cross, cLegs, cBlock, cMeet, vcLoose, heapsOf]
  refine LoopC.scanR Ais.zero l (fun i (b : List Int) => ⟨[(12, .ptr 0 0 0), (13, .ptr 1 0 0), (14, bs 2 (b.map Cel.c)), (31, .view (l.map Cel.c)), (32, .int .i64 l.length), (33, .int .i64 i)], [.rows 5 [Cel.c (blockP (nearP p) (bendP (nearP p) (nearP q) how))], .rows 5 [Cel.c (blockP (bendP (nearP p) (nearP q) how) (nearP q))], bob 1 (b.map Cel.c)]⟩) (fun i b r => crossI l p q how = b ++ crossI r p q how ∧ b.length ≤ i) [] [5, 6, 7] (by simp [atR]) (by simp) (fun i a r b hi ha hd ⟨hG, hb⟩ => ?_) fun b ⟨hG, hb⟩ => ?_
  · have hc : crossI (a :: r) p q how = (if through p q how a then [a.ID] else []) ++ crossI r p q how := by
      simp [crossI, List.filter_cons]; split <;> simp
    rw [hc] at hG
    simp [hi, ha]
    refine ⟨fun e => ?_, fun e1 e2 => ?_⟩
    · have ht : through p q how a = true := by simpa [through] using e
      simp [ht] at hG
      exact ⟨by omega, by omega, b ++ [a.ID], ⟨[0, 1, 4], by simp [atR]⟩, by simp [hG], by simp; omega⟩
    · have ht : through p q how a = false := by simp [through, e1, e2]
      simp [ht] at hG
      exact ⟨by omega, b, ⟨[0, 1, 2], by simp [atR]⟩, hG, by omega⟩
  · simp only [show crossI [] p q how = [] from rfl, List.append_nil] at hG
    have hm : b.length ≤ 1073741824 := by omega
    rw [crossL, hG]
    rcases b with _ | ⟨x, b⟩
    · simp [comp, sorted]
    · have hs : sorted (x :: b) ≠ [] := fun e => by have := sorted_len (x :: b); rw [e] at this; simp at this
      simp at hm
      simp
      exact ⟨⟨x :: b, rfl, rfl, by simp; omega⟩, sorted (x :: b), ⟨by simp, by simp⟩, rfl, by simp; omega⟩
def cCross : Ctr := V4 (fun (l : List Ais) (p q : Pt) (how : Int) => l.length ≤ 1073741824) fun l p q how => en (crossL l p q how)
theorem known_Cross : Known Try.prog 19 cCross := known_V4 (fun l p q how h => det_plan_Cross l p q how h) fun l p q how h => closed_en _
/-! ### which aisle has a point -/
abbrev QAt1 : Type := Clo1 30 Pt
theorem det_At1 (a : Ais) (p : Bx Pt) : Det Try.prog 30 [en a, en p] [] (.bool (hasP a p.v)) [] := by
  refine det_finF mixed0 (knows_cons known_Inside knows_nil) ok_plan_At_1 1 (by simp) ?_
  simp [ic_plan_At_1, rs_plan_At_1, cInside]
def cAt1 : Ctr := C2 (fun (a : Ais) (p : Bx Pt) => True) fun a p => .bool (hasP a p.v)
theorem known_At1 : Known Try.prog 30 cAt1 := known_C2 (fun a p _ => det_At1 a p) fun a p => flat_bool _
theorem det_IndexAt (l : List Ais) (q : QAt1) (hl : l.length ≤ 9223372036854775807) : Det Try.prog 29 [en l, en q] [] (.int .i64 (fidx (fun a => hasP a q.v) l 0)) [] := by
  refine det_finF mixed0 (knows_cons known_At1 knows_nil) ok_slices_IndexFunc_api_Aisle_api_Aisle 1 (by simp) ?_
  simp [ic_slices_IndexFunc_api_Aisle_api_Aisle, rs_slices_IndexFunc_api_Aisle_api_Aisle]
  refine LoopC.scanB Ais.zero l (fun i (_ : Unit) => ⟨[(0, .view (l.map Cel.c)), (1, en q), (7, .int .i64 l.length), (8, .int .i64 i)], []⟩) (fun i _ r => fidx (fun a => hasP a q.v) l 0 = fidx (fun a => hasP a q.v) r i) () (fun _ _ _ _ _ => ⟨Nat.zero_le _, ⟨lowTm_cons (low_viewc l) (lowTm_cons (low_en q) (lowTm_cons (low_int _ _) (lowTm_cons (low_int _ _) (lowTm_nil _)))), fun o h => by simp at h⟩⟩) (by simp) rfl (fun i a r b hi ha hd hG => ?_) fun b hG => ?_
  · rw [hG]
    cases he : hasP a q.v
    · simp [hi, ha, cAt1, fidx, vcLoose, he]; omega
    · simp [hi, ha, cAt1, fidx, vcLoose, he]
  · rw [hG]
    simp [fidx]
def cIndexAt : Ctr := C2 (fun (l : List Ais) (q : QAt1) => l.length ≤ 9223372036854775807) fun l q => .int .i64 (fidx (fun a => hasP a q.v) l 0)
theorem known_IndexAt : Known Try.prog 29 cIndexAt := known_C2 (fun l q h => det_IndexAt l q h) fun l q => flat_int _ _
theorem fidx_find {α : Type} (z : α) (p : α → Bool) : ∀ (l : List α) (i : Nat), (fidx p l i = -1 ∧ l.find? p = none) ∨ ∃ k : Nat, fidx p l i = ((i + k : Nat) : Int) ∧ k < l.length ∧ l.find? p = some (nth l k z)
  | [], i => .inl ⟨rfl, rfl⟩
  | x :: r, i => by
    simp only [fidx]
    by_cases h : p x = true
    · refine .inr ⟨0, by simp [h], by simp, ?_⟩
      rw [List.find?_cons_of_pos h]; simp [nth]
    · rw [if_neg h, List.find?_cons_of_neg h]
      rcases fidx_find z p r (i + 1) with ⟨h1, h2⟩ | ⟨k, h1, h2, h3⟩
      · exact .inl ⟨by simpa using h1, h2⟩
      · refine .inr ⟨k + 1, ?_, by simpa using h2, ?_⟩
        · have : ((i : Int) + 1) = ((i + 1 : Nat) : Int) := by simp
          rw [this, h1]; simp; omega
        · rw [h3]; simp [nth]
def atL (l : List Ais) (p : Pt) : Int × Bool := match l.find? fun a => hasP a p with
  | some a => (a.ID, true)
  | none => (0, false)
theorem det_plan_At (l : List Ais) (p : Pt) (hl : l.length ≤ 9223372036854775807) : Det Try.prog 9 [en l, en p] [] (.tup [en (atL l p).1, en (atL l p).2]) [] := by
  refine det_finF mixed0 (knows_cons known_IndexAt knows_nil) ok_plan_At 2 (by simp) ?_
  rcases fidx_find Ais.zero (fun a => hasP a p) l 0 with ⟨h1, h2⟩ | ⟨k, h1, h2, h3⟩
  · have h1 : fidx (fun a => hasP a p) l 0 = -1 := h1
    simp [ic_plan_At, rs_plan_At, cIndexAt, hl, atL, h1, h2]
  · have h1 : fidx (fun a => hasP a p) l 0 = (k : Int) := by simpa using h1
    simp [ic_plan_At, rs_plan_At, cIndexAt, hl, atL, h1, h2, h3]
def cPlanAt : Ctr := C2 (fun (l : List Ais) (p : Pt) => l.length ≤ 9223372036854775807) fun l p => .tup [en (atL l p).1, en (atL l p).2]
theorem known_PlanAt : Known Try.prog 9 cPlanAt := known_C2 (fun l p h => det_plan_At l p h) fun l p => flat_tup (fun x hx => by
  simp at hx
  rcases hx with rfl | rfl
  · exact flat_int _ _
  · exact flat_bool _)

/-! ### what a way goes through -/
theorem near_small {p : Pt} (h : small p 1000 = true) : nearP p = p := by
  simp [small] at h
  simp [nearP, ext_Pt]; omega
theorem through_ends {p q : Pt} {x : Ais} (h : hasP x (nearP p) = true ∨ hasP x (nearP q) = true) (how : Int) : through p q how x = true := by
  unfold through
  generalize nearP p = P at *
  generalize nearP q = Q at *
  obtain ⟨px, py⟩ := P
  obtain ⟨qx, qy⟩ := Q
  simp only [hasP, Bool.and_eq_true, decide_eq_true_eq] at h
  rw [Bool.or_eq_true]
  by_cases hh : how = 1
  · simp only [bendP, if_pos hh, meets, blockP, Bool.and_eq_true, decide_eq_true_eq]
    rcases h with h | h
    · exact .inl ⟨by omega, by omega⟩
    · exact .inr ⟨by omega, by omega⟩
  · simp only [bendP, if_neg hh, meets, blockP, Bool.and_eq_true, decide_eq_true_eq]
    rcases h with h | h
    · exact .inl ⟨by omega, by omega⟩
    · exact .inr ⟨by omega, by omega⟩
theorem mem_crossL {l : List Ais} {p q : Pt} {how n : Int} : n ∈ crossL l p q how ↔ ∃ a ∈ l, through p q how a = true ∧ a.ID = n := by
  rw [crossL, mem_comp, mem_sorted, crossI, List.mem_map]
  constructor
  · rintro ⟨a, h, rfl⟩
    rw [List.mem_filter] at h
    exact ⟨a, h.1, h.2, rfl⟩
  · rintro ⟨a, h1, h2, rfl⟩
    exact ⟨a, List.mem_filter.2 ⟨h1, h2⟩, rfl⟩
theorem rise_crossL (l : List Ais) (p q : Pt) (how : Int) : (crossL l p q how).Pairwise (· < ·) := rise_comp (sorted_le _)
theorem crossL_len (l : List Ais) (p q : Pt) (how : Int) : (crossL l p q how).length ≤ l.length := by
  refine Nat.le_trans (comp_len _) ?_
  rw [sorted_len, crossI, List.length_map]
  exact List.length_filter_le _ _
theorem at_cross {l : List Ais} {p q : Pt} {c : Pt} {n : Int} (how : Int) (hc : c = p ∨ c = q) (hp : small p 1000 = true) (hq : small q 1000 = true) (h : atL l c = (n, true)) : n ∈ crossL l p q how := by
  unfold atL at h
  split at h
  · rename_i a ha
    simp at h; subst h
    refine mem_crossL.2 ⟨a, List.mem_of_find?_eq_some ha, ?_, rfl⟩
    have hh := List.find?_some ha
    refine through_ends ?_ how
    rw [near_small hp, near_small hq]
    rcases hc with rfl | rfl
    · exact .inl hh
    · exact .inr hh
  · cases h
end Go.Proofs.Ytjpgnicgapkndaa.Sx
