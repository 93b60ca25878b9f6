/- Package tallymanref16: the document's way. No conditions: a kit of our own. -/
import Derived.Test.YtnjpfoblmomnlaaFnGr7
namespace Go.Proofs.Ytnjpfoblmomnlaa.Sx
open Go Go.RowKit
open Hp (mget mput mdel HpS)
set_option linter.unusedVariables false
set_option linter.unusedSimpArgs false
set_option maxHeartbeats 8000000

theorem det_r16_free (N : List Int) (A : List Arc) (told : List Int) (n : Int) (hA : A.length ≤ 1073741823) (hN : N.length ≤ 1073741823) (ht : told.length ≤ 1073741823) : Det Try.prog 262 [en N, en A, en told, en n] [] (.bool (Gr.freeL N A told n)) [] := by
  refine det_finF mixed0 (knows_cons known_In knows_nil) ok_r16_free 1 (by simp) ?_
  simp [ic_r16_free, rs_r16_free]
  have hN' : N.length ≤ 9223372036854775807 := by omega
  have ht' : told.length ≤ 9223372036854775807 := by omega
  refine LoopC.scan Arc.zero A (fun i => ⟨[(0, .view (N.map Cel.c)), (1, .view (A.map Cel.c)), (2, .view (told.map Cel.c)), (3, .int .i64 n), (9, .int .i64 i)], []⟩) (fun r => Gr.freeL N r told n = Gr.freeL N A told n) (by simp) (by simp) rfl (fun i a r hi ha hG => ?_) fun hG => ?_
  · have hc : Gr.freeL N (a :: r) told n = (!(decide (a.To = n) && decide (a.From ∈ N) && !decide (a.From ∈ told)) && Gr.freeL N r told n) := rfl
    rw [hc] at hG
    by_cases h1 : a.To = n
    · by_cases h2 : a.From ∈ N
      · by_cases h3 : a.From ∈ told
        · simp [h1, h2, h3] at hG
          simp [hi, ha, cIn, hN', ht', h1, h2, h3]
          exact ⟨by omega, hG⟩
        · simp [h1, h2, h3] at hG
          simp [hi, ha, cIn, hN', ht', h1, h2, h3, hG]
      · simp [h1, h2] at hG
        simp [hi, ha, cIn, hN', ht', h1, h2]
        exact ⟨by omega, hG⟩
    · simp [h1] at hG
      simp [hi, ha, cIn, hN', ht', h1]
      exact ⟨by omega, hG⟩
  · have : Gr.freeL N [] told n = true := rfl
    rw [this] at hG
    simp [← hG]
def cFree : Ctr := C4 (fun (N : List Int) (A : List Arc) (told : List Int) (n : Int) => A.length ≤ 1073741823 ∧ N.length ≤ 1073741823 ∧ told.length ≤ 1073741823) fun N A told n => .bool (Gr.freeL N A told n)
theorem known_Free : Known Try.prog 262 cFree := known_C4 (fun N A told n h => det_r16_free N A told n h.1 h.2.1 h.2.2) fun N A told n => flat_bool _
theorem find_first {N : List Int} {p : Int → Bool} {i : Nat} (hi : i < N.length) (h1 : ∀ k, k < i → p (nth N k 0) = false) (h2 : p (nth N i 0) = true) : N.find? p = some (nth N i 0) := by
  rw [List.find?_eq_some_iff_getElem]
  refine ⟨h2, i, hi, by rw [nth_get hi], fun j hj => ?_⟩
  have := h1 j hj
  rw [nth_get (by omega)] at this
  simp [this]
theorem find_none {N : List Int} {p : Int → Bool} (h1 : ∀ k, k < N.length → p (nth N k 0) = false) : N.find? p = none := by
  rw [List.find?_eq_none]
  intro x hx
  obtain ⟨k, hk, rfl⟩ := List.mem_iff_getElem.1 hx
  have := h1 k hk
  rw [nth_get hk] at this
  simp [this]
theorem det_r16_Order (ids : List Int) (A : List Arc) (hi : ids.length ≤ 536870912) (hA : A.length ≤ 1073741823) : Det Try.prog 211 [en ids, en A] [] (ordV ids A) [] := by
  have hN := rise_setL ids
  have hl := setL_len ids
  refine det_finF mixed0 (knows_cons known_R16Set (knows_cons known_In (knows_cons known_Free knows_nil))) ok_r16_Order 2 (by simp) ?_
  simp [ic_r16_Order, rs_r16_Order, cR16Set, hi, ordV]
  generalize setL ids = N at *
  have hl' : N.length ≤ 1073741823 := by omega
  refine LoopC.genR (fun b : List Int × Nat => ⟨[(1, .view (A.map Cel.c)), (6, .view (N.map Cel.c)), (7, bs 0 (b.1.map Cel.c)), (8, .int .i64 b.2)], [bob 1 (b.1.map Cel.c)]⟩)
    (fun b => (Gr.GSeq N A b.1 ∧ b.1.Nodup ∧ ∀ x ∈ b.1, x ∈ N) ∧ b.2 ≤ N.length ∧ ∀ k, k < b.2 → Gr.may N A b.1 (nth N k 0) = false) (fun b => (N.length - b.1.length) * (N.length + 1) + (N.length - b.2)) ([], 0) [0] (by simp [atR, gOk, cvw]) ⟨⟨Gr.gseq_nil N A, by simp, by simp⟩, by simp, fun k hk => absurd hk (Nat.not_lt_zero _)⟩ ?_
  rintro ⟨told, i⟩ ⟨⟨h1, h2, h3⟩, h4, h5⟩
  simp only at h1 h2 h3 h4 h5
  have htl := Gr.nodup_len h2 h3
  have ht' : told.length ≤ 9223372036854775807 := by omega
  have ht2 : told.length ≤ 1073741823 := by omega
  by_cases hin : i < N.length
  · have hmem : nth N i 0 ∈ N := by rw [nth_get hin]; exact List.getElem_mem _
    by_cases hm : Gr.may N A told (nth N i 0) = true
    · have hav : Gr.avail N A told = some (nth N i 0) := find_first hin h5 hm
      obtain ⟨m1, m2⟩ := Gr.may_iff.1 hm
      have hlt : told.length < N.length := by
        have := Gr.nodup_len (a := nth N i 0 :: told) (N := N) (List.nodup_cons.2 ⟨m1, h2⟩) fun x hx => by
          rcases List.mem_cons.1 hx with e | e
          · rw [e]; exact hmem
          · exact h3 x e
        simp at this; omega
      simp [hin, cIn, cFree, ht', ht2, hl', hA, m1, m2]
      refine ⟨told ++ [nth N i 0], 0, ⟨[1], by simp [atR, gOk, cvw]⟩, ⟨⟨Gr.gseq_snoc h1 hav, ?_, fun x hx => ?_⟩, by omega, fun k hk => absurd hk (Nat.not_lt_zero _)⟩, ?_⟩
      · rw [List.nodup_append]
        exact ⟨h2, by simp, fun a ha b hb e => m1 (by rw [List.mem_singleton] at hb; rw [← hb, ← e]; exact ha)⟩
      · rcases List.mem_append.1 hx with e | e
        · exact h3 x e
        · rw [List.mem_singleton.1 e]; exact hmem
      · have e1 : N.length - told.length = (N.length - (told.length + 1)) + 1 := by omega
        simp only [List.length_append, List.length_cons, List.length_nil, Nat.zero_add]
        rw [e1, Nat.add_mul]
        omega
    · have hm' : Gr.may N A told (nth N i 0) = false := by simpa using hm
      have inv : ∀ k, k < i + 1 → Gr.may N A told (nth N k 0) = false := fun k hk => by
        by_cases e : k = i
        · rw [e]; exact hm'
        · exact h5 k (by omega)
      by_cases m1 : nth N i 0 ∈ told
      · simp [hin, cIn, cFree, ht', ht2, hl', hA, m1]
        refine ⟨by omega, told, i + 1, ⟨[0], by simp [atR, gOk, cvw]⟩, ⟨⟨h1, h2, h3⟩, by omega, inv⟩, by omega⟩
      · have m2 : Gr.freeL N A told (nth N i 0) = false := by
          cases e : Gr.freeL N A told (nth N i 0)
          · rfl
          · exact absurd (Gr.may_iff.2 ⟨m1, e⟩) hm
        simp [hin, cIn, cFree, ht', ht2, hl', hA, m1, m2]
        refine ⟨by omega, told, i + 1, ⟨[0], by simp [atR, gOk, cvw]⟩, ⟨⟨h1, h2, h3⟩, by omega, inv⟩, by omega⟩
  · obtain rfl : i = N.length := by omega
    have he : told = toldO N A := Gr.gseq_uniq h1 (told_end A hN).2 (find_none h5) (told_end A hN).1
    rw [← he]
    simp
def cR16Order : Ctr := V2 (fun (ids : List Int) (A : List Arc) => ids.length ≤ 536870912 ∧ A.length ≤ 1073741823) ordV
theorem known_R16Order : Known Try.prog 211 cR16Order := known_V2 (fun ids A h => det_r16_Order ids A h.1 h.2) fun ids A h => closed_ordV ids A
theorem det_r16_Left (ids : List Int) (A : List Arc) (hi : ids.length ≤ 536870912) (hA : A.length ≤ 1073741823) : Det Try.prog 119 [en ids, en A] [] (en (leftO (setL ids) A)) [] := by
  have hN := rise_setL ids
  have hl := setL_len ids
  refine det_finF mixed0 (knows_cons known_R16Set (knows_cons known_In (knows_cons known_R16Order knows_nil))) ok_r16_Left 2 (by simp) ?_
  simp [ic_r16_Left, rs_r16_Left, cR16Set, cR16Order, hi, hA, ordV]
  have htl := told_len A hN
  have hlo : leftO (setL ids) A = (setL ids).filter fun n => !decide (n ∈ toldO (setL ids) A) := rfl
  generalize leftO (setL ids) A = res at *
  generalize toldO (setL ids) A = told at *
  generalize setL ids = N at *
  have ht' : told.length ≤ 9223372036854775807 := by omega
  refine LoopC.scanR (0 : Int) N (fun i (b : List Int) => ⟨[(5, .view (N.map Cel.c)), (6, .view (told.map Cel.c)), (8, bs 0 (b.map Cel.c)), (9, .int .i64 i)], [bob 1 (b.map Cel.c)]⟩)
    (fun i b r => eqL b ((N.take i).filter fun n => !decide (n ∈ told))) [] [0] (by simp [atR, gOk, cvw]) rfl (fun i a r b hi ha hd hG => ?_) fun b hG => ?_
  · unfold eqL at hG
    have hb : b.length ≤ i := by
      rw [hG]
      have := List.length_filter_le (fun n => !decide (n ∈ told)) (N.take i)
      simp at this ⊢; omega
    have hft := filter_take (fun n => !decide (n ∈ told)) hi
    rw [ha, ← hG] at hft
    by_cases hnt : a ∈ told
    · simp only [hnt, decide_true, Bool.not_true, Bool.false_eq_true, if_false, List.append_nil] at hft
      simp [hi, ha, cIn, ht', hnt]
      refine ⟨by omega, b, ⟨[0], by simp [atR, gOk, cvw]⟩, hft.symm⟩
    · simp only [hnt, decide_false, Bool.not_false, if_true] at hft
      simp [hi, ha, cIn, ht', hnt]
      refine ⟨by omega, by omega, b ++ [a], ⟨[1], by simp [atR, gOk, cvw]⟩, hft.symm⟩
  · unfold eqL at hG
    rw [List.take_length, ← hlo] at hG
    rw [← hG]; simp
end Go.Proofs.Ytnjpfoblmomnlaa.Sx
/- Package tallymanref16: levels, what is reached. No conditions: a kit of our own. -/
namespace Go.Proofs.Ytnjpfoblmomnlaa.Sx
open Go Go.RowKit
open Hp (mget mput mdel HpS)
set_option linter.unusedVariables false
set_option linter.unusedSimpArgs false

/-! ### levels, as a list beside those that are told -/
section
variable {levs : List Int} {n i : Nat} {v : Int}
end
end Go.Proofs.Ytnjpfoblmomnlaa.Sx
