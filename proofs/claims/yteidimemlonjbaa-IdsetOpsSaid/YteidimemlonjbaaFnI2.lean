/- The document's answers for sets of lists (17): in both, in one alone, in either, what comes next. No conditions: a kit of our own. -/
import Derived.Test.YteidimemlonjbaaFnI1
namespace Go.Proofs.Yteidimemlonjbaa.Sx
open Go Go.RowKit
set_option linter.unusedVariables false
set_option linter.unusedSimpArgs false

theorem det_r17_pick (a b : List Int) (t : Bool) (ha : a.length ≤ 536870912) (hb : b.length ≤ 536870912) : Det Try.prog 33 [en a, en b, en t] [] (en ((setL a).filter fun n => decide (n ∈ b) == t)) [] := by
  refine det_finF mixed0 (knows_cons known_R16Set (knows_cons known_In knows_nil)) ok_r17_pick 2 (by simp) ?_
  have hb' : b.length ≤ 9223372036854775807 := by omega
  have hs := setL_len a
  simp [ic_r17_pick, rs_r17_pick, cR16Set, cIn, ha]
  generalize setL a = s at hs ⊢
  refine LoopC.scanR (0 : Int) s (fun i (out : List Int) => ⟨[(1, .view (b.map Cel.c)), (2, .bool t), (7, .view (s.map Cel.c)), (8, bs 0 (out.map Cel.c)), (9, .int .i64 i)], [bob 1 (out.map Cel.c)]⟩) (fun i out r => (s.filter fun n => decide (n ∈ b) == t) = out ++ (r.filter fun n => decide (n ∈ b) == t) ∧ out.length ≤ i) [] [0] (by simp [atR]) (by simp) (fun i x r out hi hx hd ⟨hG, ho⟩ => ?_) fun out ⟨hG, ho⟩ => ?_
  · simp [hi, hx, hb']
    refine ⟨fun e => ?_, fun e => ?_⟩
    · rw [List.filter_cons_of_pos (by simp [e])] at hG
      exact ⟨by omega, by omega, out ++ [x], ⟨[1], by simp [atR]⟩, by simp [hG], by simp; omega⟩
    · rw [List.filter_cons_of_neg (by simp [e])] at hG
      exact ⟨by omega, out, ⟨[0], by simp [atR]⟩, hG, by omega⟩
  · simp at hG
    simp [hG]
def pickL (a b : List Int) (t : Bool) : List Int := (setL a).filter fun n => decide (n ∈ b) == t
def cR17Pick : Ctr := V3 (fun (a b : List Int) (t : Bool) => a.length ≤ 536870912 ∧ b.length ≤ 536870912) fun a b t => en (pickL a b t)
theorem known_R17Pick : Known Try.prog 33 cR17Pick := known_V3 (fun a b t h => det_r17_pick a b t h.1 h.2) fun a b t h => closed_en _
theorem det_r17_And (a b : List Int) (ha : a.length ≤ 536870912) (hb : b.length ≤ 536870912) : Det Try.prog 15 [en a, en b] [] (en (andL a b)) [] := by
  refine det_finF mixed0 (knows_cons known_R17Pick knows_nil) ok_r17_And 2 (by simp) ?_
  simp [ic_r17_And, rs_r17_And, cR17Pick, ha, hb]
  exact andL_ref a b
def cAnd : Ctr := V2 (fun (a b : List Int) => a.length ≤ 536870912 ∧ b.length ≤ 536870912) fun a b => en (andL a b)
theorem known_R17And : Known Try.prog 15 cAnd := known_V2 (fun a b h => det_r17_And a b h.1 h.2) fun a b h => closed_en _
theorem det_r17_Less (a b : List Int) (ha : a.length ≤ 536870912) (hb : b.length ≤ 536870912) : Det Try.prog 17 [en a, en b] [] (en (lessL a b)) [] := by
  refine det_finF mixed0 (knows_cons known_R17Pick knows_nil) ok_r17_Less 2 (by simp) ?_
  simp [ic_r17_Less, rs_r17_Less, cR17Pick, ha, hb]
  exact lessL_ref a b
def cLess : Ctr := V2 (fun (a b : List Int) => a.length ≤ 536870912 ∧ b.length ≤ 536870912) fun a b => en (lessL a b)
theorem known_R17Less : Known Try.prog 17 cLess := known_V2 (fun a b h => det_r17_Less a b h.1 h.2) fun a b h => closed_en _
def cR16SetN : Ctr := N1 (fun l : List Int => l.length ≤ 536870912) fun l => en (setL l)
theorem known_R16SetN : Known Try.prog 20 cR16SetN := known_N1 (fun l h => det_r16_Set l h) fun l h => closed_en _
theorem det_r17_Or (a b : List Int) (ha : a.length ≤ 268435456) (hb : b.length ≤ 268435456) : Det Try.prog 13 [en a, en b] [] (en (orL a b)) [] := by
  refine det_finF mixed0 (knows_cons known_R16SetN knows_nil) ok_r17_Or 2 (by simp) ?_
  simp [ic_r17_Or, rs_r17_Or, cR16SetN, ha, hb]
  have e : (a ++ b).take (a.length + b.length) = a ++ b := List.take_of_length_le (by simp)
  refine ⟨by omega, by omega, ⟨fun row hr => ?_, by omega⟩, by rw [e]; exact orL_ref a b⟩
  have hr := List.mem_of_mem_take hr
  rw [← List.map_append] at hr
  obtain ⟨x, _, rfl⟩ := List.mem_map.1 hr
  exact Cel.ok_c _ x
def cOr : Ctr := V2 (fun (a b : List Int) => a.length ≤ 268435456 ∧ b.length ≤ 268435456) fun a b => en (orL a b)
theorem known_R17Or : Known Try.prog 13 cOr := known_V2 (fun a b h => det_r17_Or a b h.1 h.2) fun a b h => closed_en _
theorem det_r17_Above (l : List Int) (n : Int) (hl : l.length ≤ 536870912) : Det Try.prog 10 [en l, en n] [] (.tup [en (abv l n).1, en (abv l n).2]) [] := by
  refine det_finF mixed0 (knows_cons known_R16Set knows_nil) ok_r17_Above 2 (by simp) ?_
  have hs := setL_len l
  simp [ic_r17_Above, rs_r17_Above, cR16Set, hl]
  unfold abv
  generalize setL l = s at hs ⊢
  refine LoopC.scanB (0 : Int) s (fun i (_ : Unit) => ⟨[(1, .int .i64 n), (6, .view (s.map Cel.c)), (7, .int .i64 i)], []⟩) (fun i _ r => s.find? (fun x => decide (n < x)) = r.find? fun x => decide (n < x)) () (by simp) (by simp) rfl (fun i x r b hi hx hd hG => ?_) fun b hG => ?_
  · simp [hi, hx, hG]
    refine ⟨fun h => ?_, fun h => ⟨by omega, ?_⟩⟩
    · rw [List.find?_cons_of_pos (by simpa using h)]
      exact ⟨rfl, rfl⟩
    · rw [List.find?_cons_of_neg (by simpa using h)]
  · rw [List.find?_nil] at hG
    simp only [hG]
    simp
def cAbove : Ctr := V2 (fun (l : List Int) (n : Int) => l.length ≤ 536870912) fun l n => .tup [en (abv l n).1, en (abv l n).2]
theorem known_R17Above : Known Try.prog 10 cAbove := known_V2 (fun l n h => det_r17_Above l n h) fun l n h => closed_tupl (by simp)
theorem AbvOf.step {l : List Int} {n x b : Int} {is : Bool} (h : AbvOf l n (b, is)) (hx : n < x) (hb : is = false ∨ x < b) : AbvOf (l ++ [x]) n (x, true) := by
  refine .inl ⟨rfl, by simp, hx, fun y hy hn => ?_⟩
  simp only
  rcases List.mem_append.1 hy with hy | hy
  · rcases h with ⟨h1, h2, h3, h4⟩ | ⟨h1, h2, h3⟩
    · have := h4 y hy hn
      simp only at h1 this
      rcases hb with hb | hb
      · rw [h1] at hb; cases hb
      · omega
    · exact absurd hn (h3 y hy)
  · simp at hy; omega
theorem AbvOf.stay {l : List Int} {n x b : Int} {is : Bool} (h : AbvOf l n (b, is)) (hx : n < x → is = true ∧ b ≤ x) : AbvOf (l ++ [x]) n (b, is) := by
  rcases h with ⟨h1, h2, h3, h4⟩ | ⟨h1, h2, h3⟩
  · refine .inl ⟨h1, by simp only; simp only at h2; simp [h2], h3, fun y hy hn => ?_⟩
    rcases List.mem_append.1 hy with hy | hy
    · exact h4 y hy hn
    · simp at hy; subst hy; exact (hx hn).2
  · refine .inr ⟨h1, h2, fun y hy hn => ?_⟩
    rcases List.mem_append.1 hy with hy | hy
    · exact h3 y hy hn
    · simp at hy; subst hy
      have := (hx hn).1
      simp only at h1
      rw [h1] at this; cases this
theorem det_idset_Above (l : List Int) (n : Int) (hl : l.length ≤ 536870912) : Det Try.prog 9 [en l, en n] [] (.tup [en (abv l n).1, en (abv l n).2]) [] := by
  refine det_finF mixed0 knows_nil ok_idset_Above 2 (by simp) ?_
  simp [ic_idset_Above, rs_idset_Above]
  refine LoopC.scanB (0 : Int) l (fun i (b : Int × Bool) => ⟨[(1, .int .i64 n), (6, .int .i64 b.1), (7, .bool b.2), (10, .view (l.map Cel.c)), (11, .int .i64 l.length), (12, .int .i64 i)], []⟩) (fun i b r => AbvOf (l.take i) n b) (0, false) (by simp) (by simp) (.inr ⟨rfl, rfl, by simp⟩) (fun i x r b hi hx hd hG => ?_) fun b hG => ?_
  · obtain ⟨b, is⟩ := b
    have ht : l.take (i + 1) = l.take i ++ [x] := by rw [take_nth hi, hx]
    simp [hi, hx, ht]
    refine ⟨fun h1 h2 => ⟨by omega, hG.step h1 h2⟩, fun h => ⟨by omega, b, ?_⟩⟩
    have := hG.stay h
    cases is
    · exact .inl ⟨by simp, this⟩
    · exact .inr ⟨by simp, this⟩
  · rw [List.take_length] at hG
    rw [abv_eq hG]
    simp
theorem known_IdAbove : Known Try.prog 9 cAbove := known_V2 (fun l n h => det_idset_Above l n h) fun l n h => closed_tupl (by simp)
end Go.Proofs.Yteidimemlonjbaa.Sx
