/- Sets of numbers as rising lists: plain facts. No conditions: a kit of our own. -/
import Derived.Test.YtaimhgmakgbfaaaFnA1
import Derived.Test.YtaimhgmakgbfaaaSrt2
namespace Go.Proofs.Ytaimhgmakgbfaaa.Sx
open Go Go.RowKit
set_option linter.unusedVariables false
set_option linter.unusedSimpArgs false

theorem rises_iff : ∀ {l : List Int}, rises l = true ↔ l.Pairwise (· < ·)
  | [] => by simp [rises]
  | [a] => by simp [rises]
  | a :: b :: l => by
    rw [rises_cons2, Bool.and_eq_true, decide_eq_true_eq, rises_iff (l := b :: l), List.pairwise_cons (a := a)]
    constructor
    · rintro ⟨h1, h2⟩
      refine ⟨fun x hx => ?_, h2⟩
      rcases List.mem_cons.1 hx with rfl | hx
      · exact h1
      · have := (List.pairwise_cons.1 h2).1 x hx; omega
    · rintro ⟨h1, h2⟩
      exact ⟨h1 b (by simp), h2⟩
/-- Of neighbours that are alike, one. -/
def comp : List Int → List Int
  | a :: b :: l => if a = b then comp (b :: l) else a :: comp (b :: l)
  | l => l
theorem comp_cons2 (a b : Int) (l : List Int) : comp (a :: b :: l) = if a = b then comp (b :: l) else a :: comp (b :: l) := rfl
theorem comp_nil : comp [] = [] := rfl
theorem comp_one (a : Int) : comp [a] = [a] := rfl
theorem comp_head : ∀ (a : Int) (l : List Int), comp (a :: l) = a :: (comp (a :: l)).tail
  | a, [] => rfl
  | a, b :: l => by
    rw [comp_cons2]
    split
    · rename_i h; subst h; exact comp_head a l
    · rfl
theorem mem_comp {x : Int} : ∀ {l : List Int}, x ∈ comp l ↔ x ∈ l
  | [] => by simp [comp]
  | [a] => by simp [comp]
  | a :: b :: l => by
    rw [comp_cons2]
    split
    · rename_i h; subst h
      rw [mem_comp (l := a :: l)]; simp
    · rw [List.mem_cons, mem_comp (l := b :: l), List.mem_cons (a := x) (b := a)]
theorem rise_comp : ∀ {l : List Int}, l.Pairwise (· ≤ ·) → (comp l).Pairwise (· < ·)
  | [], h => by simp [comp]
  | [a], h => by simp [comp]
  | a :: b :: l, h => by
    rw [comp_cons2]
    obtain ⟨h1, h2⟩ := List.pairwise_cons.1 h
    split
    · exact rise_comp h2
    · refine List.pairwise_cons.2 ⟨fun x hx => ?_, rise_comp h2⟩
      rw [mem_comp] at hx
      have h3 := h1 b (by simp)
      rcases List.mem_cons.1 hx with rfl | hx
      · omega
      · have := (List.pairwise_cons.1 h2).1 x hx; omega
theorem comp_len : ∀ (l : List Int), (comp l).length ≤ l.length
  | [] => by simp [comp]
  | [a] => by simp [comp]
  | a :: b :: l => by
    have := comp_len (b :: l)
    rw [comp_cons2]
    split <;> simp at this ⊢ <;> omega
theorem mem_sorted {x : Int} {l : List Int} : x ∈ sorted l ↔ x ∈ l := List.mem_mergeSort
theorem sorted_le (l : List Int) : (sorted l).Pairwise (· ≤ ·) := by
  have h := List.pairwise_mergeSort (le := fun x y : Int => decide (x ≤ y)) (fun a b c h1 h2 => by simp at *; omega) (fun a b => by simp; omega) l
  exact h.imp (by simp)
/-- A list's set. -/
def setL (l : List Int) : List Int := if rises l then l else comp (sorted l)
theorem mem_setL {x : Int} {l : List Int} : x ∈ setL l ↔ x ∈ l := by
  unfold setL; split
  · rfl
  · rw [mem_comp, mem_sorted]
theorem rise_setL (l : List Int) : (setL l).Pairwise (· < ·) := by
  unfold setL; split
  · exact rises_iff.1 (by assumption)
  · exact rise_comp (sorted_le l)
theorem setL_len (l : List Int) : (setL l).length ≤ l.length := by
  unfold setL; split
  · exact Nat.le_refl _
  · exact Nat.le_trans (comp_len _) (by simp)
theorem rise_ext : ∀ {a b : List Int}, a.Pairwise (· < ·) → b.Pairwise (· < ·) → (∀ x, x ∈ a ↔ x ∈ b) → a = b
  | [], [], _, _, _ => rfl
  | [], y :: b, _, _, h => by have := (h y).2 (by simp); simp at this
  | x :: a, [], _, _, h => by have := (h x).1 (by simp); simp at this
  | x :: a, y :: b, ha, hb, h => by
    obtain ⟨h1, h2⟩ := List.pairwise_cons.1 ha
    obtain ⟨h3, h4⟩ := List.pairwise_cons.1 hb
    have e : x = y := by
      rcases List.mem_cons.1 ((h x).1 (by simp)) with e | e
      · exact e
      · rcases List.mem_cons.1 ((h y).2 (by simp)) with e' | e'
        · exact e'.symm
        · have := h3 x e; have := h1 y e'; omega
    subst e
    rw [rise_ext h2 h4 fun z => ⟨fun hz => ?_, fun hz => ?_⟩]
    · have := h1 z hz
      rcases List.mem_cons.1 ((h z).1 (by simp [hz])) with e | e
      · omega
      · exact e
    · have := h3 z hz
      rcases List.mem_cons.1 ((h z).2 (by simp [hz])) with e | e
      · omega
      · exact e
theorem setL_same {l : List Int} (h : l.Pairwise (· < ·)) : setL l = l := by rw [setL, if_pos (rises_iff.2 h)]
/-- A number put where it belongs; d: it is there. -/
def insG (x : Int) : Bool → List Int → List Int
  | d, [] => if d then [] else [x]
  | d, o :: r => (if !d && decide (x ≤ o) then [x] else []) ++ ((if o = x then [] else [o]) ++ insG x (d || decide (x ≤ o)) r)
theorem mem_insG {x z : Int} : ∀ {d : Bool} {l : List Int}, z ∈ insG x d l ↔ (z = x ∧ d = false) ∨ (z ≠ x ∧ z ∈ l)
  | d, [] => by cases d <;> simp [insG]
  | d, o :: r => by
    rw [insG, List.mem_append, List.mem_append, mem_insG (d := d || decide (x ≤ o)) (l := r)]
    by_cases h1 : z = x <;> by_cases h2 : o = x <;> by_cases h3 : x ≤ o <;> cases d <;> simp [h1, h2, h3] <;> first | omega | grind
theorem rise_insT {x : Int} : ∀ {l : List Int}, l.Pairwise (· < ·) → (∀ y ∈ l, x < y) → insG x true l = l
  | [], _, _ => rfl
  | o :: r, h, hx => by
    have := hx o (by simp)
    have ih := rise_insT (List.pairwise_cons.1 h).2 fun y hy => hx y (by simp [hy])
    have h2 : o ≠ x := by omega
    simp [insG, ih, h2]
theorem rise_insG {x : Int} : ∀ {l : List Int}, l.Pairwise (· < ·) → (insG x false l).Pairwise (· < ·)
  | [], _ => by simp [insG]
  | o :: r, h => by
    obtain ⟨h1, h2⟩ := List.pairwise_cons.1 h
    rw [insG]
    by_cases h3 : x ≤ o
    · have hr : insG x (false || decide (x ≤ o)) r = r := by
        simp only [h3, decide_true, Bool.or_true]
        exact rise_insT h2 fun y hy => by have := h1 y hy; omega
      rw [hr]
      by_cases h4 : o = x
      · subst h4
        simp [h2]
        exact h1
      · have h5 : x < o := by omega
        simp [h3, h4, h2, h5]
        exact ⟨fun y hy => by have := h1 y hy; omega, h1⟩
    · have h4 : o ≠ x := by omega
      simp only [h3, h4, decide_false, Bool.and_false, Bool.false_eq_true, if_false, List.nil_append, Bool.or_false, List.cons_append]
      refine List.pairwise_cons.2 ⟨fun y hy => ?_, rise_insG h2⟩
      rw [mem_insG] at hy
      rcases hy with ⟨rfl, _⟩ | ⟨_, hy⟩
      · omega
      · exact h1 y hy
def insL (out : List Int) (x : Int) : List Int := insG x false out
theorem fold_insL (l : List Int) : ∀ {out : List Int}, out.Pairwise (· < ·) → (l.foldl insL out).Pairwise (· < ·) ∧ ∀ z, z ∈ l.foldl insL out ↔ z ∈ out ∨ z ∈ l := by
  induction l with
  | nil => intro out h; exact ⟨h, by simp⟩
  | cons x l ih =>
    intro out h
    obtain ⟨h1, h2⟩ := ih (out := insL out x) (rise_insG h)
    refine ⟨h1, fun z => ?_⟩
    rw [List.foldl_cons, h2, insL, mem_insG, List.mem_cons]
    by_cases hz : z = x <;> simp [hz]
theorem fold_set (l : List Int) : l.foldl insL [] = setL l := by
  obtain ⟨h1, h2⟩ := fold_insL l (out := []) List.Pairwise.nil
  exact rise_ext h1 (rise_setL l) fun x => by rw [h2, mem_setL]; simp
theorem insG_len (x : Int) : ∀ (d : Bool) (l : List Int), (insG x d l).length ≤ l.length + 1
  | d, [] => by cases d <;> simp [insG]
  | true, o :: r => by
    have := insG_len x true r
    rw [insG]; simp
    split <;> simp <;> omega
  | false, o :: r => by
    rw [insG]
    by_cases h : x ≤ o
    · have hh : ∀ l : List Int, (insG x true l).length ≤ l.length := fun l => by
        induction l with
        | nil => simp [insG]
        | cons o r ih => rw [insG]; simp; split <;> simp <;> omega
      have := hh r
      simp [h]; split <;> simp <;> omega
    · have := insG_len x false r
      simp [h]; split <;> simp <;> omega

/-! ### two sets at once -/
def zipS : List Int → List Int → List (Int × Bool × Bool)
  | [], [] => []
  | a :: x, [] => (a, true, false) :: zipS x []
  | [], b :: y => (b, false, true) :: zipS [] y
  | a :: x, b :: y => if a < b then (a, true, false) :: zipS x (b :: y) else if b < a then (b, false, true) :: zipS (a :: x) y else (a, true, true) :: zipS x y
termination_by x y => x.length + y.length
theorem mem_zipS {n : Int} {o t : Bool} (x y : List Int) : x.Pairwise (· < ·) → y.Pairwise (· < ·) → ((n, o, t) ∈ zipS x y ↔ o = decide (n ∈ x) ∧ t = decide (n ∈ y) ∧ (n ∈ x ∨ n ∈ y)) := by
  fun_induction zipS x y with
  | case1 => simp
  | case2 a x ih =>
    intro hx hy
    obtain ⟨h1, h2⟩ := List.pairwise_cons.1 hx
    rw [List.mem_cons, ih h2 hy]
    by_cases h : n = a
    · subst h
      have : n ∉ x := fun hn => by have := h1 n hn; omega
      simp [this]
    · simp [h]
  | case3 b y ih =>
    intro hx hy
    obtain ⟨h1, h2⟩ := List.pairwise_cons.1 hy
    rw [List.mem_cons, ih hx h2]
    by_cases h : n = b
    · subst h
      have : n ∉ y := fun hn => by have := h1 n hn; omega
      simp [this]
    · simp [h]
  | case4 a x b y hlt ih =>
    intro hx hy
    obtain ⟨h1, h2⟩ := List.pairwise_cons.1 hx
    obtain ⟨h3, h4⟩ := List.pairwise_cons.1 hy
    rw [List.mem_cons, ih h2 hy]
    by_cases h : n = a
    · subst h
      have i1 : n ∉ x := fun hn => by have := h1 n hn; omega
      have i2 : n ∉ b :: y := fun hn => by
        rcases List.mem_cons.1 hn with rfl | hn
        · omega
        · have := h3 n hn; omega
      simp [i1, i2]
    · simp [h]
  | case5 a x b y hle hlt ih =>
    intro hx hy
    obtain ⟨h1, h2⟩ := List.pairwise_cons.1 hx
    obtain ⟨h3, h4⟩ := List.pairwise_cons.1 hy
    rw [List.mem_cons, ih hx h4]
    by_cases h : n = b
    · subst h
      have i1 : n ∉ y := fun hn => by have := h3 n hn; omega
      have i2 : n ∉ a :: x := fun hn => by
        rcases List.mem_cons.1 hn with rfl | hn
        · omega
        · have := h1 n hn; omega
      simp [i1, i2]
    · simp [h]
  | case6 a x b y hle hle' ih =>
    intro hx hy
    obtain ⟨h1, h2⟩ := List.pairwise_cons.1 hx
    obtain ⟨h3, h4⟩ := List.pairwise_cons.1 hy
    have e : a = b := by omega
    subst e
    rw [List.mem_cons, ih h2 h4]
    by_cases h : n = a
    · subst h
      have i1 : n ∉ y := fun hn => by have := h3 n hn; omega
      have i2 : n ∉ x := fun hn => by have := h1 n hn; omega
      simp [i1, i2]
    · simp [h]
theorem rise_zipS (x y : List Int) (hx : x.Pairwise (· < ·)) (hy : y.Pairwise (· < ·)) : (zipS x y).Pairwise fun p q => p.1 < q.1 := by
  fun_induction zipS x y with
  | case1 => exact .nil
  | case2 a x ih =>
    obtain ⟨h1, h2⟩ := List.pairwise_cons.1 hx
    refine List.pairwise_cons.2 ⟨fun ⟨n, o, t⟩ hn => ?_, ih h2 hy⟩
    rw [mem_zipS _ _ h2 hy] at hn
    rcases hn.2.2 with h | h
    · exact h1 n h
    · simp at h
  | case3 b y ih =>
    obtain ⟨h1, h2⟩ := List.pairwise_cons.1 hy
    refine List.pairwise_cons.2 ⟨fun ⟨n, o, t⟩ hn => ?_, ih hx h2⟩
    rw [mem_zipS _ _ hx h2] at hn
    rcases hn.2.2 with h | h
    · simp at h
    · exact h1 n h
  | case4 a x b y hlt ih =>
    obtain ⟨h1, h2⟩ := List.pairwise_cons.1 hx
    obtain ⟨h3, h4⟩ := List.pairwise_cons.1 hy
    refine List.pairwise_cons.2 ⟨fun ⟨n, o, t⟩ hn => ?_, ih h2 hy⟩
    rw [mem_zipS _ _ h2 hy] at hn
    rcases hn.2.2 with h | h
    · exact h1 n h
    · rcases List.mem_cons.1 h with rfl | h
      · exact hlt
      · have := h3 n h; simp only; omega
  | case5 a x b y hle hlt ih =>
    obtain ⟨h1, h2⟩ := List.pairwise_cons.1 hx
    obtain ⟨h3, h4⟩ := List.pairwise_cons.1 hy
    refine List.pairwise_cons.2 ⟨fun ⟨n, o, t⟩ hn => ?_, ih hx h4⟩
    rw [mem_zipS _ _ hx h4] at hn
    rcases hn.2.2 with h | h
    · rcases List.mem_cons.1 h with rfl | h
      · exact hlt
      · have := h1 n h; simp only; omega
    · exact h3 n h
  | case6 a x b y hle hle' ih =>
    obtain ⟨h1, h2⟩ := List.pairwise_cons.1 hx
    obtain ⟨h3, h4⟩ := List.pairwise_cons.1 hy
    refine List.pairwise_cons.2 ⟨fun ⟨n, o, t⟩ hn => ?_, ih h2 h4⟩
    rw [mem_zipS _ _ h2 h4] at hn
    rcases hn.2.2 with h | h
    · exact h1 n h
    · have := h3 n h; simp only; omega
theorem zipS_len (x y : List Int) : (zipS x y).length ≤ x.length + y.length := by
  fun_induction zipS x y <;> simp at * <;> omega
def picks (p : Bool → Bool → Bool) (x y : List Int) : List Int := ((zipS x y).filter fun e => p e.2.1 e.2.2).map (·.1)
theorem picks_len (p : Bool → Bool → Bool) (x y : List Int) : (picks p x y).length ≤ x.length + y.length := by
  rw [picks, List.length_map]
  exact Nat.le_trans (List.length_filter_le _ _) (zipS_len x y)
theorem mem_picks {p : Bool → Bool → Bool} {x y : List Int} {n : Int} (hx : x.Pairwise (· < ·)) (hy : y.Pairwise (· < ·)) : n ∈ picks p x y ↔ (n ∈ x ∨ n ∈ y) ∧ p (decide (n ∈ x)) (decide (n ∈ y)) = true := by
  unfold picks
  rw [List.mem_map]
  constructor
  · rintro ⟨⟨m, o, t⟩, h, rfl⟩
    rw [List.mem_filter, mem_zipS _ _ hx hy] at h
    obtain ⟨⟨h1, h2, h3⟩, h4⟩ := h
    refine ⟨h3, ?_⟩
    rw [← h1, ← h2]; exact h4
  · rintro ⟨h1, h2⟩
    exact ⟨(n, decide (n ∈ x), decide (n ∈ y)), by rw [List.mem_filter, mem_zipS _ _ hx hy]; exact ⟨⟨rfl, rfl, h1⟩, h2⟩, rfl⟩
theorem rise_picks {p : Bool → Bool → Bool} {x y : List Int} (hx : x.Pairwise (· < ·)) (hy : y.Pairwise (· < ·)) : (picks p x y).Pairwise (· < ·) := by
  unfold picks
  rw [List.pairwise_map]
  exact (rise_zipS x y hx hy).sublist List.filter_sublist
def orL (a b : List Int) : List Int := picks (· || ·) (setL a) (setL b)
def andL (a b : List Int) : List Int := picks (· && ·) (setL a) (setL b)
def lessL (a b : List Int) : List Int := picks (fun o t => o && !t) (setL a) (setL b)
theorem mem_orL {a b : List Int} {n : Int} : n ∈ orL a b ↔ n ∈ a ∨ n ∈ b := by
  rw [orL, mem_picks (rise_setL a) (rise_setL b)]; simp only [mem_setL]; simp
theorem mem_andL {a b : List Int} {n : Int} : n ∈ andL a b ↔ n ∈ a ∧ n ∈ b := by
  rw [andL, mem_picks (rise_setL a) (rise_setL b)]; simp only [mem_setL]; simp; grind
theorem mem_lessL {a b : List Int} {n : Int} : n ∈ lessL a b ↔ n ∈ a ∧ n ∉ b := by
  rw [lessL, mem_picks (rise_setL a) (rise_setL b)]; simp only [mem_setL]; simp; grind
theorem rise_orL (a b : List Int) : (orL a b).Pairwise (· < ·) := rise_picks (rise_setL a) (rise_setL b)
theorem rise_andL (a b : List Int) : (andL a b).Pairwise (· < ·) := rise_picks (rise_setL a) (rise_setL b)
theorem rise_lessL (a b : List Int) : (lessL a b).Pairwise (· < ·) := rise_picks (rise_setL a) (rise_setL b)
theorem orL_ref (a b : List Int) : setL (a ++ b) = orL a b := rise_ext (rise_setL _) (rise_orL a b) fun x => by rw [mem_setL, mem_orL, List.mem_append]
theorem andL_ref (a b : List Int) : ((setL a).filter fun n => decide (n ∈ b) == true) = andL a b := rise_ext ((rise_setL a).sublist List.filter_sublist) (rise_andL a b) fun x => by rw [List.mem_filter, mem_setL, mem_andL]; simp
theorem lessL_ref (a b : List Int) : ((setL a).filter fun n => decide (n ∈ b) == false) = lessL a b := rise_ext ((rise_setL a).sublist List.filter_sublist) (rise_lessL a b) fun x => by rw [List.mem_filter, mem_setL, mem_lessL]; simp
theorem lessL_nil {a b : List Int} : lessL a b = [] ↔ ∀ x ∈ a, x ∈ b := by
  rw [List.eq_nil_iff_forall_not_mem]
  constructor
  · intro h x hx
    have := h x
    rw [mem_lessL] at this
    exact Classical.byContradiction fun hb => this ⟨hx, hb⟩
  · intro h x hx
    rw [mem_lessL] at hx
    exact hx.2 (h x hx.1)
theorem orL_len (a b : List Int) : (orL a b).length ≤ a.length + b.length := Nat.le_trans (picks_len _ _ _) (Nat.add_le_add (setL_len a) (setL_len b))
theorem andL_len (a b : List Int) : (andL a b).length ≤ a.length + b.length := Nat.le_trans (picks_len _ _ _) (Nat.add_le_add (setL_len a) (setL_len b))
theorem lessL_len (a b : List Int) : (lessL a b).length ≤ a.length + b.length := Nat.le_trans (picks_len _ _ _) (Nat.add_le_add (setL_len a) (setL_len b))
/-- In both sets, or in one alone: as many as there are. -/
theorem parts_len (a b : List Int) : (orL a b).length = (lessL a b).length + (andL a b).length + (lessL b a).length := by
  have e : lessL b a = picks (fun o t => !o && t) (setL a) (setL b) := rise_ext (rise_lessL b a) (rise_picks (rise_setL a) (rise_setL b)) fun x => by
    rw [mem_lessL, mem_picks (rise_setL a) (rise_setL b)]; simp only [mem_setL]; simp; grind
  rw [e, orL, andL, lessL]
  simp only [picks, List.length_map]
  have key : ∀ l : List (Int × Bool × Bool), (∀ n, (n, false, false) ∉ l) → (l.filter fun e => e.2.1 || e.2.2).length = (l.filter fun e => e.2.1 && !e.2.2).length + (l.filter fun e => e.2.1 && e.2.2).length + (l.filter fun e => !e.2.1 && e.2.2).length := fun l => by
    induction l with
    | nil => simp
    | cons e l ih =>
      intro h
      have := ih fun n hn => h n (by simp [hn])
      obtain ⟨n, o, t⟩ := e
      cases o <;> cases t <;> simp at this ⊢ <;> first | omega | (exact absurd (h n) (by simp))
  refine key _ fun n hn => ?_
  rw [mem_zipS _ _ (rise_setL a) (rise_setL b)] at hn
  obtain ⟨h1, h2, h3⟩ := hn
  simp at h1 h2
  rcases h3 with h | h
  · exact h1 h
  · exact h2 h

/-! ### the next number above one -/
def AbvOf (l : List Int) (n : Int) (r : Int × Bool) : Prop := (r.2 = true ∧ r.1 ∈ l ∧ n < r.1 ∧ ∀ x ∈ l, n < x → r.1 ≤ x) ∨ (r.2 = false ∧ r.1 = 0 ∧ ∀ x ∈ l, ¬ n < x)
theorem AbvOf.uniq {l l' : List Int} {n : Int} {r s : Int × Bool} (hl : ∀ x, x ∈ l ↔ x ∈ l') (h : AbvOf l n r) (h' : AbvOf l' n s) : r = s := by
  obtain ⟨b, i⟩ := r
  obtain ⟨c, j⟩ := s
  rcases h with ⟨h1, h2, h3, h4⟩ | ⟨h1, h2, h3⟩ <;> rcases h' with ⟨k1, k2, k3, k4⟩ | ⟨k1, k2, k3⟩ <;> simp only at * <;> subst h1 <;> subst k1
  · have := h4 c ((hl c).2 k2) k3
    have := k4 b ((hl b).1 h2) h3
    have : b = c := by omega
    rw [this]
  · exact absurd h3 (k3 b ((hl b).1 h2))
  · exact absurd k3 (h3 c ((hl c).2 k2))
  · rw [h2, k2]
def abv (l : List Int) (n : Int) : Int × Bool := match (setL l).find? fun x => decide (n < x) with
  | some x => (x, true)
  | none => (0, false)
theorem find_abv {l : List Int} (h : l.Pairwise (· < ·)) (n : Int) : AbvOf l n (match l.find? fun x => decide (n < x) with | some x => (x, true) | none => (0, false)) := by
  induction l with
  | nil => exact .inr ⟨rfl, rfl, by simp⟩
  | cons a l ih =>
    obtain ⟨h1, h2⟩ := List.pairwise_cons.1 h
    by_cases ha : n < a
    · rw [List.find?_cons_of_pos (by simpa using ha)]
      refine .inl ⟨rfl, by simp, ha, fun x hx _ => ?_⟩
      rcases List.mem_cons.1 hx with rfl | hx
      · exact Int.le_refl _
      · exact Int.le_of_lt (h1 x hx)
    · rw [List.find?_cons_of_neg (by simpa using ha)]
      rcases ih h2 with ⟨k1, k2, k3, k4⟩ | ⟨k1, k2, k3⟩
      · refine .inl ⟨k1, by simp [k2], k3, fun x hx hn => ?_⟩
        rcases List.mem_cons.1 hx with rfl | hx
        · exact absurd hn ha
        · exact k4 x hx hn
      · refine .inr ⟨k1, k2, fun x hx => ?_⟩
        rcases List.mem_cons.1 hx with rfl | hx
        · exact ha
        · exact k3 x hx
theorem abv_of (l : List Int) (n : Int) : AbvOf l n (abv l n) := by
  have h := find_abv (rise_setL l) n
  rcases h with ⟨k1, k2, k3, k4⟩ | ⟨k1, k2, k3⟩
  · exact .inl ⟨k1, mem_setL.1 k2, k3, fun x hx => k4 x (mem_setL.2 hx)⟩
  · exact .inr ⟨k1, k2, fun x hx => k3 x (mem_setL.2 hx)⟩
theorem abv_eq {l : List Int} {n : Int} {r : Int × Bool} (h : AbvOf l n r) : abv l n = r := AbvOf.uniq (fun _ => Iff.rfl) (abv_of l n) h
/-- What comes next is what stands ahead of the rest. -/
def ahd : List Int → Int × Bool
  | [] => (0, false)
  | x :: _ => (x, true)
theorem abv_from {A told rest : List Int} {m : Int} (hA : A.Pairwise (· < ·)) (h : A = told ++ rest) (h1 : ∀ x ∈ told, x ≤ m) (h2 : ∀ x ∈ rest, m < x) : abv A m = ahd rest := by
  refine abv_eq ?_
  subst h
  cases rest with
  | nil => exact .inr ⟨rfl, rfl, fun x hx => by have := h1 x (by simpa using hx); omega⟩
  | cons r rest =>
    refine .inl ⟨rfl, by simp [ahd], h2 r (by simp), fun x hx hm => ?_⟩
    rcases List.mem_append.1 hx with hx | hx
    · have := h1 x hx; omega
    · have hp := (List.pairwise_append.1 hA).2.1
      rcases List.mem_cons.1 hx with rfl | hx
      · exact Int.le_refl _
      · exact Int.le_of_lt ((List.pairwise_cons.1 hp).1 x hx)
end Go.Proofs.Ytaimhgmakgbfaaa.Sx
