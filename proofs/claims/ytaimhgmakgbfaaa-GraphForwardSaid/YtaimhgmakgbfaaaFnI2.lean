/- The document's answers for sets of lists (17): in both, in one alone, in either, what comes next. No conditions: a kit of our own. -/
import Derived.Test.YtaimhgmakgbfaaaFnI1
namespace Go.Proofs.Ytaimhgmakgbfaaa.Sx
open Go Go.RowKit
set_option linter.unusedVariables false
set_option linter.unusedSimpArgs false

def pickL (a b : List Int) (t : Bool) : List Int := (setL a).filter fun n => decide (n ∈ b) == t
def cR17Pick : Ctr := V3 (fun (a b : List Int) (t : Bool) => a.length ≤ 536870912 ∧ b.length ≤ 536870912) fun a b t => en (pickL a b t)
def cAnd : Ctr := V2 (fun (a b : List Int) => a.length ≤ 536870912 ∧ b.length ≤ 536870912) fun a b => en (andL a b)
def cLess : Ctr := V2 (fun (a b : List Int) => a.length ≤ 536870912 ∧ b.length ≤ 536870912) fun a b => en (lessL a b)
def cR16SetN : Ctr := N1 (fun l : List Int => l.length ≤ 536870912) fun l => en (setL l)
theorem known_R16SetN : Known Try.prog 29 cR16SetN := known_N1 (fun l h => det_r16_Set l h) fun l h => closed_en _
def cOr : Ctr := V2 (fun (a b : List Int) => a.length ≤ 268435456 ∧ b.length ≤ 268435456) fun a b => en (orL a b)
def cAbove : Ctr := V2 (fun (l : List Int) (n : Int) => l.length ≤ 536870912) fun l n => .tup [en (abv l n).1, en (abv l n).2]
theorem AbvOf.step {l : List Int} {n x b : Int} {is : Bool} (h : AbvOf l n (b, is)) (hx : n < x) (hb : is = false ∨ x < b) : AbvOf (l ++ [x]) n (x, true) := by
  refine .inl ⟨rfl, by simp, hx, fun y hy hn => ?_⟩
  simp only
  rcases List.mem_append.1 hy with hy | hy
  · rcases h with ⟨h1, h2, h3, h4⟩ | ⟨h1, h2, h3⟩
    · have := h4 y hy hn
      simp only at h1 this
      rcases hb with hb | hb
      · rw [h1] at hb; cases hb
      · omega
    · exact absurd hn (h3 y hy)
  · simp at hy; omega
theorem AbvOf.stay {l : List Int} {n x b : Int} {is : Bool} (h : AbvOf l n (b, is)) (hx : n < x → is = true ∧ b ≤ x) : AbvOf (l ++ [x]) n (b, is) := by
  rcases h with ⟨h1, h2, h3, h4⟩ | ⟨h1, h2, h3⟩
  · refine .inl ⟨h1, by simp only; simp only at h2; simp [h2], h3, fun y hy hn => ?_⟩
    rcases List.mem_append.1 hy with hy | hy
    · exact h4 y hy hn
    · simp at hy; subst hy; exact (hx hn).2
  · refine .inr ⟨h1, h2, fun y hy hn => ?_⟩
    rcases List.mem_append.1 hy with hy | hy
    · exact h3 y hy hn
    · simp at hy; subst hy
      have := (hx hn).1
      simp only at h1
      rw [h1] at this; cases this
end Go.Proofs.Ytaimhgmakgbfaaa.Sx
