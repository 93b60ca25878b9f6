/- Sets of numbers as rising lists: plain facts. No conditions: a kit of our own. -/
import Derived.Test.YtnjpfoblmomnlaaFnA1
import Derived.Test.YtnjpfoblmomnlaaSrt2
namespace Go.Proofs.Ytnjpfoblmomnlaa.Sx
open Go Go.RowKit
set_option linter.unusedVariables false
set_option linter.unusedSimpArgs false

theorem rises_iff : ∀ {l : List Int}, rises l = true ↔ l.Pairwise (· < ·)
  | [] => by simp [rises]
  | [a] => by simp [rises]
  | a :: b :: l => by
    rw [rises_cons2, Bool.and_eq_true, decide_eq_true_eq, rises_iff (l := b :: l), List.pairwise_cons (a := a)]
    constructor
    · rintro ⟨h1, h2⟩
      refine ⟨fun x hx => ?_, h2⟩
      rcases List.mem_cons.1 hx with rfl | hx
      · exact h1
      · have := (List.pairwise_cons.1 h2).1 x hx; omega
    · rintro ⟨h1, h2⟩
      exact ⟨h1 b (by simp), h2⟩
/-- Of neighbours that are alike, one. -/
def comp : List Int → List Int
  | a :: b :: l => if a = b then comp (b :: l) else a :: comp (b :: l)
  | l => l
theorem comp_cons2 (a b : Int) (l : List Int) : comp (a :: b :: l) = if a = b then comp (b :: l) else a :: comp (b :: l) := rfl
theorem comp_head : ∀ (a : Int) (l : List Int), comp (a :: l) = a :: (comp (a :: l)).tail
  | a, [] => rfl
  | a, b :: l => by
    rw [comp_cons2]
    split
    · rename_i h; subst h; exact comp_head a l
    · rfl
theorem mem_comp {x : Int} : ∀ {l : List Int}, x ∈ comp l ↔ x ∈ l
  | [] => by simp [comp]
  | [a] => by simp [comp]
  | a :: b :: l => by
    rw [comp_cons2]
    split
    · rename_i h; subst h
      rw [mem_comp (l := a :: l)]; simp
    · rw [List.mem_cons, mem_comp (l := b :: l), List.mem_cons (a := x) (b := a)]
theorem rise_comp : ∀ {l : List Int}, l.Pairwise (· ≤ ·) → (comp l).Pairwise (· < ·)
  | [], h => by simp [comp]
  | [a], h => by simp [comp]
  | a :: b :: l, h => by
    rw [comp_cons2]
    obtain ⟨h1, h2⟩ := List.pairwise_cons.1 h
    split
    · exact rise_comp h2
    · refine List.pairwise_cons.2 ⟨fun x hx => ?_, rise_comp h2⟩
      rw [mem_comp] at hx
      have h3 := h1 b (by simp)
      rcases List.mem_cons.1 hx with rfl | hx
      · omega
      · have := (List.pairwise_cons.1 h2).1 x hx; omega
theorem comp_len : ∀ (l : List Int), (comp l).length ≤ l.length
  | [] => by simp [comp]
  | [a] => by simp [comp]
  | a :: b :: l => by
    have := comp_len (b :: l)
    rw [comp_cons2]
    split <;> simp at this ⊢ <;> omega
theorem mem_sorted {x : Int} {l : List Int} : x ∈ sorted l ↔ x ∈ l := List.mem_mergeSort
theorem sorted_le (l : List Int) : (sorted l).Pairwise (· ≤ ·) := by
  have h := List.pairwise_mergeSort (le := fun x y : Int => decide (x ≤ y)) (fun a b c h1 h2 => by simp at *; omega) (fun a b => by simp; omega) l
  exact h.imp (by simp)
/-- A list's set. -/
def setL (l : List Int) : List Int := if rises l then l else comp (sorted l)
theorem mem_setL {x : Int} {l : List Int} : x ∈ setL l ↔ x ∈ l := by
  unfold setL; split
  · rfl
  · rw [mem_comp, mem_sorted]
theorem rise_setL (l : List Int) : (setL l).Pairwise (· < ·) := by
  unfold setL; split
  · exact rises_iff.1 (by assumption)
  · exact rise_comp (sorted_le l)
theorem setL_len (l : List Int) : (setL l).length ≤ l.length := by
  unfold setL; split
  · exact Nat.le_refl _
  · exact Nat.le_trans (comp_len _) (by simp)
theorem rise_ext : ∀ {a b : List Int}, a.Pairwise (· < ·) → b.Pairwise (· < ·) → (∀ x, x ∈ a ↔ x ∈ b) → a = b
  | [], [], _, _, _ => rfl
  | [], y :: b, _, _, h => by have := (h y).2 (by simp); simp at this
  | x :: a, [], _, _, h => by have := (h x).1 (by simp); simp at this
  | x :: a, y :: b, ha, hb, h => by
    obtain ⟨h1, h2⟩ := List.pairwise_cons.1 ha
    obtain ⟨h3, h4⟩ := List.pairwise_cons.1 hb
    have e : x = y := by
      rcases List.mem_cons.1 ((h x).1 (by simp)) with e | e
      · exact e
      · rcases List.mem_cons.1 ((h y).2 (by simp)) with e' | e'
        · exact e'.symm
        · have := h3 x e; have := h1 y e'; omega
    subst e
    rw [rise_ext h2 h4 fun z => ⟨fun hz => ?_, fun hz => ?_⟩]
    · have := h1 z hz
      rcases List.mem_cons.1 ((h z).1 (by simp [hz])) with e | e
      · omega
      · exact e
    · have := h3 z hz
      rcases List.mem_cons.1 ((h z).2 (by simp [hz])) with e | e
      · omega
      · exact e
/-- A number put where it belongs; d: it is there. -/
def insG (x : Int) : Bool → List Int → List Int
  | d, [] => if d then [] else [x]
  | d, o :: r => (if !d && decide (x ≤ o) then [x] else []) ++ ((if o = x then [] else [o]) ++ insG x (d || decide (x ≤ o)) r)
theorem mem_insG {x z : Int} : ∀ {d : Bool} {l : List Int}, z ∈ insG x d l ↔ (z = x ∧ d = false) ∨ (z ≠ x ∧ z ∈ l)
  | d, [] => by cases d <;> simp [insG]
  | d, o :: r => by
    rw [insG, List.mem_append, List.mem_append, mem_insG (d := d || decide (x ≤ o)) (l := r)]
    by_cases h1 : z = x <;> by_cases h2 : o = x <;> by_cases h3 : x ≤ o <;> cases d <;> simp [h1, h2, h3] <;> first | omega | grind
theorem rise_insT {x : Int} : ∀ {l : List Int}, l.Pairwise (· < ·) → (∀ y ∈ l, x < y) → insG x true l = l
  | [], _, _ => rfl
  | o :: r, h, hx => by
    have := hx o (by simp)
    have ih := rise_insT (List.pairwise_cons.1 h).2 fun y hy => hx y (by simp [hy])
    have h2 : o ≠ x := by omega
    simp [insG, ih, h2]
theorem rise_insG {x : Int} : ∀ {l : List Int}, l.Pairwise (· < ·) → (insG x false l).Pairwise (· < ·)
  | [], _ => by simp [insG]
  | o :: r, h => by
    obtain ⟨h1, h2⟩ := List.pairwise_cons.1 h
    rw [insG]
    by_cases h3 : x ≤ o
    · have hr : insG x (false || decide (x ≤ o)) r = r := by
        simp only [h3, decide_true, Bool.or_true]
        exact rise_insT h2 fun y hy => by have := h1 y hy; omega
      rw [hr]
      by_cases h4 : o = x
      · subst h4
        simp [h2]
        exact h1
      · have h5 : x < o := by omega
        simp [h3, h4, h2, h5]
        exact ⟨fun y hy => by have := h1 y hy; omega, h1⟩
    · have h4 : o ≠ x := by omega
      simp only [h3, h4, decide_false, Bool.and_false, Bool.false_eq_true, if_false, List.nil_append, Bool.or_false, List.cons_append]
      refine List.pairwise_cons.2 ⟨fun y hy => ?_, rise_insG h2⟩
      rw [mem_insG] at hy
      rcases hy with ⟨rfl, _⟩ | ⟨_, hy⟩
      · omega
      · exact h1 y hy
def insL (out : List Int) (x : Int) : List Int := insG x false out
theorem fold_insL (l : List Int) : ∀ {out : List Int}, out.Pairwise (· < ·) → (l.foldl insL out).Pairwise (· < ·) ∧ ∀ z, z ∈ l.foldl insL out ↔ z ∈ out ∨ z ∈ l := by
  induction l with
  | nil => intro out h; exact ⟨h, by simp⟩
  | cons x l ih =>
    intro out h
    obtain ⟨h1, h2⟩ := ih (out := insL out x) (rise_insG h)
    refine ⟨h1, fun z => ?_⟩
    rw [List.foldl_cons, h2, insL, mem_insG, List.mem_cons]
    by_cases hz : z = x <;> simp [hz]
theorem fold_set (l : List Int) : l.foldl insL [] = setL l := by
  obtain ⟨h1, h2⟩ := fold_insL l (out := []) List.Pairwise.nil
  exact rise_ext h1 (rise_setL l) fun x => by rw [h2, mem_setL]; simp
/-! ### two sets at once -/
/-! ### the next number above one -/
def AbvOf (l : List Int) (n : Int) (r : Int × Bool) : Prop := (r.2 = true ∧ r.1 ∈ l ∧ n < r.1 ∧ ∀ x ∈ l, n < x → r.1 ≤ x) ∨ (r.2 = false ∧ r.1 = 0 ∧ ∀ x ∈ l, ¬ n < x)
end Go.Proofs.Ytnjpfoblmomnlaa.Sx
