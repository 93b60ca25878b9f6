/- The document's answers for sets of lists (17): in both, in one alone, in either, what comes next. No conditions: a kit of our own. -/
import Derived.Test.YtnjpfoblmomnlaaFnI1
namespace Go.Proofs.Ytnjpfoblmomnlaa.Sx
open Go Go.RowKit
set_option linter.unusedVariables false
set_option linter.unusedSimpArgs false

theorem AbvOf.step {l : List Int} {n x b : Int} {is : Bool} (h : AbvOf l n (b, is)) (hx : n < x) (hb : is = false ∨ x < b) : AbvOf (l ++ [x]) n (x, true) := by
  refine .inl ⟨rfl, by simp, hx, fun y hy hn => ?_⟩
  simp only
  rcases List.mem_append.1 hy with hy | hy
  · rcases h with ⟨h1, h2, h3, h4⟩ | ⟨h1, h2, h3⟩
    · have := h4 y hy hn
      simp only at h1 this
      rcases hb with hb | hb
      · rw [h1] at hb; cases hb
      · omega
    · exact absurd hn (h3 y hy)
  · simp at hy; omega
theorem AbvOf.stay {l : List Int} {n x b : Int} {is : Bool} (h : AbvOf l n (b, is)) (hx : n < x → is = true ∧ b ≤ x) : AbvOf (l ++ [x]) n (b, is) := by
  rcases h with ⟨h1, h2, h3, h4⟩ | ⟨h1, h2, h3⟩
  · refine .inl ⟨h1, by simp only; simp only at h2; simp [h2], h3, fun y hy hn => ?_⟩
    rcases List.mem_append.1 hy with hy | hy
    · exact h4 y hy hn
    · simp at hy; subst hy; exact (hx hn).2
  · refine .inr ⟨h1, h2, fun y hy hn => ?_⟩
    rcases List.mem_append.1 hy with hy | hy
    · exact h3 y hy hn
    · simp at hy; subst hy
      have := (hx hn).1
      simp only at h1
      rw [h1] at this; cases this
end Go.Proofs.Ytnjpfoblmomnlaa.Sx
