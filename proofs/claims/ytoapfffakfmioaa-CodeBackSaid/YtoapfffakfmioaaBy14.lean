/- What is read is written again; codes that are cut off, or too long (package code), plain. No conditions: a kit of our own. -/
import Derived.Test.YtoapfffakfmioaaBy13
namespace Go.Proofs.Ytoapfffakfmioaa.Sx
open Go Go.RowKit
set_option linter.unusedVariables false
set_option linter.unusedSimpArgs false

/-- What was read stood in front. -/
theorem word_back {r : Rdr} (h : (wordR r).E = 0) : r.B = varB (wordV r).toNat ++ (wordR r).B := by
  have hE := wordR_E h
  have hu : (unvar r.B).2.2 = 0 := by
    unfold wordR at h
    rw [if_neg (by simpa using hE)] at h
    split at h
    · exact h
    · rename_i hh; simpa using hh
  have e1 : wordR r = ⟨(unvar r.B).2.1, 0⟩ := by simp [wordR, hE, hu]
  have e2 : wordV r = (unvar r.B).1 := by simp [wordV, hE, hu]
  rw [e1, e2]
  exact unvar_back hu
theorem int_back {r : Rdr} (h : (intR r).E = 0) : r.B = varB (u64 (intV r)).toNat ++ (intR r).B := by
  have hw := word_back (intR_E h)
  have hs : ¬ 4294967295 < (wordV r).toNat := fun hh => by
    unfold intR at h; rw [if_pos hh] at h; cases h
  have e1 : intR r = wordR r := by unfold intR; rw [if_neg hs]
  have e2 : intV r = (wordV r).toNat := by unfold intV; rw [if_neg hs]
  rw [e1, e2, u64_toNat]
  exact hw
theorem many_back {r : Rdr} {m k : Int} (hk : k ≠ 0) (h : (manyR r m k).E = 0) : r.B = varB (u64 (manyV r m k)).toNat ++ (manyR r m k).B := by
  have hw := int_back (manyR_E hk h)
  have hs : ¬ m < intV r := fun hh => by
    unfold manyR at h; rw [if_pos hh] at h; exact hk h
  have e1 : manyR r m k = intR r := by unfold manyR; rw [if_neg hs]
  have e2 : manyV r m k = intV r := by unfold manyV; rw [if_neg hs]
  rw [e1, e2]
  exact hw
theorem unzig_i64 (w : BitVec 64) : isI64 (unzig w) := by
  have := w.isLt
  unfold unzig isI64
  split <;> omega
theorem zig_unzig (w : BitVec 64) : zig (unzig w) = w := by
  have hz := zig_toNat (unzig_i64 w)
  have := w.isLt
  apply BitVec.eq_of_toNat_eq
  unfold unzig at hz ⊢
  by_cases h : w.toNat % 2 = 0
  · rw [if_pos h] at hz ⊢
    rw [if_pos (by omega)] at hz
    omega
  · rw [if_neg h] at hz ⊢
    rw [if_neg (by omega)] at hz
    omega
theorem zig_back {r : Rdr} (h : (intR r).E = 0) : r.B = varB (zig (zigV r)).toNat ++ (intR r).B := by
  unfold zigV
  rw [zig_unzig]
  exact int_back h
theorem point_back {r : Rdr} (h : (pointR r).E = 0) : r.B = varB (zig (pointV r).X).toNat ++ (varB (zig (pointV r).Y).toNat ++ (pointR r).B) := by
  have h1 : (intR r).E = 0 := wordR_E (intR_E h)
  have e1 := zig_back h1
  have e2 := zig_back h
  rw [show (pointV r).X = zigV r from rfl, show (pointV r).Y = zigV (intR r) from rfl, show pointR r = intR (intR r) from rfl, ← e2]
  exact e1
theorem takes_back : ∀ (n : Nat) (r : Rdr) (acc : List Int), (takes n r acc).1.E = 0 → ∃ l, (takes n r acc).2 = acc ++ l ∧ l.length = n ∧ r.B = vars (l.map u64) ++ (takes n r acc).1.B
  | 0, r, acc, h => ⟨[], by simp [takes], rfl, by simp [takes, vars_nil]⟩
  | n + 1, r, acc, h => by
    have hE := takes_E _ _ _ h
    rw [takes, if_neg (by simpa using hE)] at h ⊢
    obtain ⟨l, h1, h2, h3⟩ := takes_back n (intR r) (acc ++ [intV r]) h
    have h4 := int_back (takes_E _ _ _ h)
    exact ⟨intV r :: l, by rw [h1]; simp, by simp [h2], by rw [List.map_cons, vars_cons, List.append_assoc, ← h3]; exact h4⟩
theorem spec_back {r : Rdr} (h : (specR r).E = 0) : r.B = vars (specNums (specV r)) ++ (specR r).B := by
  have hv : specV r = spec0 r (takeN r).2 := by unfold specV; rw [if_neg (by simpa using h)]
  rw [hv]
  unfold specR at h ⊢
  unfold takeN at h ⊢
  obtain ⟨l, k1, k2, k3⟩ := takes_back _ _ _ h
  have h7 : (r7 r).E = 0 := takes_E _ _ _ h
  have h6 : (intR (r6 r)).E = 0 := manyR_E (by decide) h7
  have h5 : (r6 r).E = 0 := wordR_E (intR_E h6)
  have h4 : (r5 r).E = 0 := wordR_E (intR_E (wordR_E (intR_E h5)))
  have h3 : (r4 r).E = 0 := wordR_E (intR_E (wordR_E (intR_E h4)))
  have h2 : (r3 r).E = 0 := wordR_E h3
  have h1 : (r2 r).E = 0 := wordR_E h2
  have h0 : (r1 r).E = 0 := wordR_E (intR_E h1)
  have b1 := int_back (r := r) h0
  have b2 := int_back (r := r1 r) h1
  have b3 := word_back (r := r2 r) h2
  have b4 := word_back (r := r3 r) h3
  have b5 := point_back (r := r4 r) h4
  have b6 := point_back (r := r5 r) h5
  have b7 := many_back (r := r6 r) (m := 8) (k := 1) (by decide) h7
  have hn := manyV_nn (r6 r) 8 1
  have hl : manyV (r6 r) 8 1 = (l.length : Int) := by omega
  rw [show intR r = r1 r from rfl] at b1
  rw [show intR (r1 r) = r2 r from rfl] at b2
  rw [show wordR (r2 r) = r3 r from rfl] at b3
  rw [show wordR (r3 r) = r4 r from rfl] at b4
  rw [show pointR (r4 r) = r5 r from rfl] at b5
  rw [show pointR (r5 r) = r6 r from rfl] at b6
  rw [show manyR (r6 r) 8 1 = r7 r from rfl, hl] at b7
  rw [k1]
  generalize (takes (manyV (r6 r) 8 1).toNat (r7 r) []).1.B = rest at *
  rw [b1, b2, b3, b4, b5, b6, b7, k3]
  simp [spec0, specNums, vars]
theorem takesS_E : ∀ (n : Nat) (r : Rdr) (acc : List Spec), (takesS n r acc).1.E = 0 → r.E = 0
  | 0, r, acc, h => h
  | n + 1, r, acc, h => by
    by_cases hE : r.E = 0
    · exact hE
    · rw [takesS_stop hE] at h; exact h
theorem takesS_back : ∀ (n : Nat) (r : Rdr) (acc : List Spec), (takesS n r acc).1.E = 0 → ∃ l, (takesS n r acc).2 = acc ++ l ∧ l.length = n ∧ r.B = specsB l ++ (takesS n r acc).1.B
  | 0, r, acc, h => ⟨[], by simp [takesS], rfl, by simp [takesS, specsB_nil]⟩
  | n + 1, r, acc, h => by
    have hE := takesS_E _ _ _ h
    rw [takesS, if_neg (by simpa using hE)] at h ⊢
    obtain ⟨l, h1, h2, h3⟩ := takesS_back n (specR r) (acc ++ [specV r]) h
    have h4 := spec_back (takesS_E _ _ _ h)
    exact ⟨specV r :: l, by rw [h1]; simp, by simp [h2], by rw [specsB_cons, List.append_assoc, ← h3]; exact h4⟩
theorem cmd_back {r : Rdr} {k : Int} (h : (cmdRd r k).E = 0) : r.B = cmdTail (cmdC r k) ++ (cmdRd r k).B := by
  rcases four k with ⟨f1, f2, f3⟩ | ⟨f1, f2, f3⟩ | ⟨f1, f2, f3⟩ | ⟨f1, f2, f3⟩
  · subst f3
    have e0 : cmdT 1 r = takeB r := by simp [cmdT]
    unfold cmdRd at h ⊢
    have ec : cmdC r 1 = ⟨1, 0, 0#64, (takeB r).2⟩ := by simp [cmdC, e0, f1, f2]
    rw [ec]
    rw [e0] at h ⊢
    unfold takeB at h ⊢
    obtain ⟨l, k1, k2, k3⟩ := takesS_back _ _ _ h
    have h7 := takesS_E _ _ _ h
    have b7 := many_back (r := r) (m := 64) (k := 15) (by decide) h7
    have hn := manyV_nn r 64 15
    have hl : manyV r 64 15 = (l.length : Int) := by omega
    rw [hl] at b7
    rw [k1]
    generalize (takesS (manyV r 64 15).toNat (manyR r 64 15) []).1.B = rest at *
    rw [b7, k3]
    simp [cmdTail, f1, f2]
  · have e1 : cmdRd r k = wordR (intR r) := by simp [cmdRd, cmdT, f3, cmdBits, cmdId, f1, f2]
    have e2 : cmdC r k = ⟨k, intV r, wordV (intR r), []⟩ := by simp [cmdC, cmdT, f1, f2, f3, cmdId]
    rw [e1] at h
    rw [e1, e2]
    have b1 := int_back (wordR_E h)
    have b2 := word_back h
    generalize (wordR (intR r)).B = rest at *
    rw [b1, b2]
    simp [cmdTail, f1, f2, f3]
  · have e1 : cmdRd r k = r := by simp [cmdRd, cmdT, f3, cmdBits, cmdId, f1, f2]
    have e2 : cmdC r k = ⟨k, 0, 0#64, []⟩ := by simp [cmdC, cmdT, f1, f2, f3, cmdId]
    rw [e1, e2]
    simp [cmdTail, f1, f2, f3]
  · have e1 : cmdRd r k = intR r := by simp [cmdRd, cmdT, f3, cmdBits, cmdId, f1, f2]
    have e2 : cmdC r k = ⟨k, intV r, 0#64, []⟩ := by simp [cmdC, cmdT, f1, f2, f3, cmdId]
    rw [e1] at h
    rw [e1, e2]
    have b1 := int_back h
    generalize (intR r).B = rest at *
    rw [b1]
    simp [cmdTail, f1, f2, f3]
theorem kb_toNat {k : Int} (h1 : 1 ≤ k) (h2 : k ≤ 15) : ((kb k).toNat : Int) = k := by
  unfold kb; rw [BitVec.toNat_ofInt]; omega
theorem kb_of (x : BitVec 8) : kb (x.toNat : Int) = x := by unfold kb; simp
/-- What is read is written to the same bytes. -/
theorem dec_enc : ∀ {b : List (BitVec 8)}, (decP b).2 = 0 → cmdErr (decP b).1 = 0 ∧ encB (decP b).1 = b
  | [], h => by simp [decP] at h
  | x :: l, h => by
    simp only [decP] at h ⊢
    by_cases hx : x.toNat < 1 ∨ 15 < x.toNat
    · rw [if_pos hx] at h; cases h
    · rw [if_neg hx] at h ⊢
      unfold decR at h ⊢
      by_cases hE : (cmdRd ⟨l, 0⟩ x.toNat).E = 0
      · rw [if_neg (by simpa using hE)] at h ⊢
        by_cases hB : (cmdRd ⟨l, 0⟩ x.toNat).B = []
        · rw [if_neg (by simpa using hB)] at h ⊢
          by_cases hC : cmdErr (cmdC ⟨l, 0⟩ x.toNat) = 0
          · rw [if_neg (by simpa using hC)]
            refine ⟨hC, ?_⟩
            have hb := cmd_back hE
            rw [hB, List.append_nil] at hb
            simp only [encB, hC, ne_eq, not_true, if_false]
            rw [cmdB_eq, ← hb]
            show kb (x.toNat : Int) :: l = x :: l
            rw [kb_of]
          · rw [if_pos (by simpa using hC)] at h
            exact absurd h hC
        · rw [if_pos (by simpa using hB)] at h; cases h
      · rw [if_pos (by simpa using hE)] at h
        exact absurd h hE
section
variable {c : Cmd}
theorem decP_kind {l : List (BitVec 8)} (h1 : 1 ≤ c.Kind) (h2 : c.Kind ≤ 15) : decP (kb c.Kind :: l) = decR c.Kind l := by
  have hk := kb_toNat h1 h2
  simp only [decP]
  rw [if_neg (by omega), hk]
/-- Commands come back. -/
theorem enc_dec (h1 : 1 ≤ c.Kind) (h2 : c.Kind ≤ 15) (hf : fitC c) (he : cmdErr c = 0) : decP (encB c) = (c, 0) := by
  simp only [encB, he, ne_eq, not_true, if_false]
  rw [cmdB_eq, decP_kind h1 h2]
  obtain ⟨g1, g2⟩ := cmd_at (e := some []) (r := ⟨cmdTail c, 0⟩) (tail := []) hf (by simp [At])
  have g1 : cmdRd ⟨cmdTail c, 0⟩ c.Kind = ⟨[], 0⟩ := by simpa [At] using g1
  have g2 := g2 (by rw [g1])
  unfold decR
  rw [g1, g2]
  simp [he]
theorem enc_long (h1 : 1 ≤ c.Kind) (h2 : c.Kind ≤ 15) (hf : fitC c) (he : cmdErr c = 0) (y : BitVec 8) : (decP (encB c ++ [y])).2 = 3 := by
  simp only [encB, he, ne_eq, not_true, if_false]
  rw [cmdB_eq, List.cons_append, decP_kind h1 h2]
  obtain ⟨g1, g2⟩ := cmd_at (e := some [y]) (r := ⟨cmdTail c ++ [y], 0⟩) (tail := []) hf (by simp [At])
  have g1 : cmdRd ⟨cmdTail c ++ [y], 0⟩ c.Kind = ⟨[y], 0⟩ := by simpa [At] using g1
  unfold decR
  rw [g1]
  simp
theorem enc_cut (h1 : 1 ≤ c.Kind) (h2 : c.Kind ≤ 15) (hf : fitC c) (he : cmdErr c = 0) (k : Nat) (hk : k < (encB c).length) : (decP ((encB c).take k)).2 = 4 := by
  simp only [encB, he, ne_eq, not_true, if_false] at hk ⊢
  rw [cmdB_eq] at hk ⊢
  cases k with
  | zero => simp [decP]
  | succ k =>
    rw [List.take_succ_cons, decP_kind h1 h2]
    obtain ⟨g1, g2⟩ := cmd_at (e := none) (r := ⟨(cmdTail c).take k, 0⟩) (tail := []) hf (.inr ⟨rfl, k, by simpa using hk, by simp⟩)
    rcases g1 with g1 | ⟨_, m, hm, _⟩
    · unfold decR
      rw [if_pos (by rw [g1]; decide)]
      exact g1
    · simp at hm
end
end Go.Proofs.Ytoapfffakfmioaa.Sx
