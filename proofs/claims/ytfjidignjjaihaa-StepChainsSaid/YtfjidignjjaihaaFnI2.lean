/- The document's answers for sets of lists (17): in both, in one alone, in either, what comes next. No conditions: a kit of our own. -/
import Derived.Test.YtfjidignjjaihaaFnI1
namespace Go.Proofs.Ytfjidignjjaihaa.Sx
open Go Go.RowKit
set_option linter.unusedVariables false
set_option linter.unusedSimpArgs false

theorem det_r17_pick (a b : List Int) (t : Bool) (ha : a.length ≤ 536870912) (hb : b.length ≤ 536870912) : Det Try.prog 187 [en a, en b, en t] [] (en ((setL a).filter fun n => decide (n ∈ b) == t)) [] := by
  refine det_finF mixed0 (knows_cons known_R16Set (knows_cons known_In knows_nil)) ok_r17_pick 2 (by simp) ?_
  have hb' : b.length ≤ 9223372036854775807 := by omega
  have hs := setL_len a
  simp [ic_r17_pick, rs_r17_pick, cR16Set, cIn, ha]
  generalize setL a = s at hs ⊢
  refine LoopC.scanR (0 : Int) s (fun i (out : List Int) => ⟨[(1, .view (b.map Cel.c)), (2, .bool t), (7, .view (s.map Cel.c)), (8, bs 0 (out.map Cel.c)), (9, .int .i64 i)], [bob 1 (out.map Cel.c)]⟩) (fun i out r => (s.filter fun n => decide (n ∈ b) == t) = out ++ (r.filter fun n => decide (n ∈ b) == t) ∧ out.length ≤ i) [] [0] (by simp [atR]) (by simp) (fun i x r out hi hx hd ⟨hG, ho⟩ => ?_) fun out ⟨hG, ho⟩ => ?_
  · simp [hi, hx, hb']
    refine ⟨fun e => ?_, fun e => ?_⟩
    · rw [List.filter_cons_of_pos (by simp [e])] at hG
      exact ⟨by omega, by omega, out ++ [x], ⟨[1], by simp [atR]⟩, by simp [hG], by simp; omega⟩
    · rw [List.filter_cons_of_neg (by simp [e])] at hG
      exact ⟨by omega, out, ⟨[0], by simp [atR]⟩, hG, by omega⟩
  · simp at hG
    simp [hG]
def pickL (a b : List Int) (t : Bool) : List Int := (setL a).filter fun n => decide (n ∈ b) == t
def cR17Pick : Ctr := V3 (fun (a b : List Int) (t : Bool) => a.length ≤ 536870912 ∧ b.length ≤ 536870912) fun a b t => en (pickL a b t)
theorem known_R17Pick : Known Try.prog 187 cR17Pick := known_V3 (fun a b t h => det_r17_pick a b t h.1 h.2) fun a b t h => closed_en _
def cAnd : Ctr := V2 (fun (a b : List Int) => a.length ≤ 536870912 ∧ b.length ≤ 536870912) fun a b => en (andL a b)
theorem det_r17_Less (a b : List Int) (ha : a.length ≤ 536870912) (hb : b.length ≤ 536870912) : Det Try.prog 129 [en a, en b] [] (en (lessL a b)) [] := by
  refine det_finF mixed0 (knows_cons known_R17Pick knows_nil) ok_r17_Less 2 (by simp) ?_
  simp [ic_r17_Less, rs_r17_Less, cR17Pick, ha, hb]
  exact lessL_ref a b
def cLess : Ctr := V2 (fun (a b : List Int) => a.length ≤ 536870912 ∧ b.length ≤ 536870912) fun a b => en (lessL a b)
theorem known_R17Less : Known Try.prog 129 cLess := known_V2 (fun a b h => det_r17_Less a b h.1 h.2) fun a b h => closed_en _
def cR16SetN : Ctr := N1 (fun l : List Int => l.length ≤ 536870912) fun l => en (setL l)
theorem known_R16SetN : Known Try.prog 203 cR16SetN := known_N1 (fun l h => det_r16_Set l h) fun l h => closed_en _
def cOr : Ctr := V2 (fun (a b : List Int) => a.length ≤ 268435456 ∧ b.length ≤ 268435456) fun a b => en (orL a b)
def cAbove : Ctr := V2 (fun (l : List Int) (n : Int) => l.length ≤ 536870912) fun l n => .tup [en (abv l n).1, en (abv l n).2]
theorem AbvOf.step {l : List Int} {n x b : Int} {is : Bool} (h : AbvOf l n (b, is)) (hx : n < x) (hb : is = false ∨ x < b) : AbvOf (l ++ [x]) n (x, true) := by
  refine .inl ⟨rfl, by simp, hx, fun y hy hn => ?_⟩
  simp only
  rcases List.mem_append.1 hy with hy | hy
  · rcases h with ⟨h1, h2, h3, h4⟩ | ⟨h1, h2, h3⟩
    · have := h4 y hy hn
      simp only at h1 this
      rcases hb with hb | hb
      · rw [h1] at hb; cases hb
      · omega
    · exact absurd hn (h3 y hy)
  · simp at hy; omega
theorem AbvOf.stay {l : List Int} {n x b : Int} {is : Bool} (h : AbvOf l n (b, is)) (hx : n < x → is = true ∧ b ≤ x) : AbvOf (l ++ [x]) n (b, is) := by
  rcases h with ⟨h1, h2, h3, h4⟩ | ⟨h1, h2, h3⟩
  · refine .inl ⟨h1, by simp only; simp only at h2; simp [h2], h3, fun y hy hn => ?_⟩
    rcases List.mem_append.1 hy with hy | hy
    · exact h4 y hy hn
    · simp at hy; subst hy; exact (hx hn).2
  · refine .inr ⟨h1, h2, fun y hy hn => ?_⟩
    rcases List.mem_append.1 hy with hy | hy
    · exact h3 y hy hn
    · simp at hy; subst hy
      have := (hx hn).1
      simp only at h1
      rw [h1] at this; cases this
end Go.Proofs.Ytfjidignjjaihaa.Sx
