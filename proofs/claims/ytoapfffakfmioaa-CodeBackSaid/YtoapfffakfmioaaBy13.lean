/- What is written is read again: specs and commands (package code), plain. No conditions: a kit of our own. -/
import Derived.Test.YtoapfffakfmioaaBy12
namespace Go.Proofs.Ytoapfffakfmioaa.Sx
open Go Go.RowKit
set_option linter.unusedVariables false
set_option linter.unusedSimpArgs false

/-- A reader stands ahead of 'rest': cut off somewhere in it (none), or with 'ex' behind it (some ex). -/
def At (e : Option (List (BitVec 8))) (r : Rdr) (rest : List (BitVec 8)) : Prop := match e with
  | none => r.E = 4 ∨ (r.E = 0 ∧ ∃ m, m < rest.length ∧ r.B = rest.take m)
  | some ex => r = ⟨rest ++ ex, 0⟩
theorem At.stop {e : Option (List (BitVec 8))} {r : Rdr} {rest rest' : List (BitVec 8)} (h : At e r rest) (hE : r.E ≠ 0) : At e r rest' := by
  cases e with
  | none =>
    rcases h with h | h
    · exact .inl h
    · exact absurd h.1 hE
  | some ex => rw [show r = _ from h] at hE; exact absurd rfl hE
theorem wordR_E {r : Rdr} (h : (wordR r).E = 0) : r.E = 0 := by
  unfold wordR at h
  by_cases hE : r.E = 0
  · exact hE
  · rw [if_pos hE] at h; exact h
theorem intR_E {r : Rdr} (h : (intR r).E = 0) : (wordR r).E = 0 := by
  unfold intR at h
  split at h
  · cases h
  · exact h
theorem word_at {e : Option (List (BitVec 8))} {r : Rdr} {w : BitVec 64} {tail : List (BitVec 8)} (h : At e r (varB w.toNat ++ tail)) : At e (wordR r) tail ∧ ((wordR r).E = 0 → wordV r = w) := by
  cases e with
  | some ex =>
    have h : r = ⟨varB w.toNat ++ tail ++ ex, 0⟩ := h
    subst h
    have hu := unvar_varB w (tail ++ ex)
    simp [At, wordR, wordV, hu]
  | none =>
    rcases h with h | ⟨h, m, hm, hB⟩
    · have e1 : wordR r = r := by unfold wordR; rw [if_pos (by rw [h]; decide)]
      rw [e1]
      exact ⟨.inl h, fun h' => by rw [h] at h'; cases h'⟩
    · by_cases hl : m < (varB w.toNat).length
      · have e1 : r.B = (varB w.toNat).take m := by rw [hB, List.take_append_of_le_length (by omega)]
        have hu := unvar_cut w m hl
        rw [← e1] at hu
        have e2 : wordR r = ⟨[], 4⟩ := by simp [wordR, h, hu]
        rw [e2]
        exact ⟨.inl rfl, fun h' => by cases h'⟩
      · have e1 : r.B = varB w.toNat ++ tail.take (m - (varB w.toNat).length) := by rw [hB, List.take_append, List.take_of_length_le (by omega)]
        have hu := unvar_varB w (tail.take (m - (varB w.toNat).length))
        rw [← e1] at hu
        have e2 : wordR r = ⟨tail.take (m - (varB w.toNat).length), 0⟩ := by simp [wordR, h, hu]
        have e3 : wordV r = w := by simp [wordV, h, hu]
        rw [e2]
        rw [List.length_append] at hm
        exact ⟨.inr ⟨rfl, _, by omega, rfl⟩, fun _ => e3⟩
theorem u64_nat {n : Int} (h1 : 0 ≤ n) (h2 : n ≤ 4294967295) : ((u64 n).toNat : Int) = n := by
  unfold u64; rw [BitVec.toNat_ofInt]; omega
theorem int_at {e : Option (List (BitVec 8))} {r : Rdr} {n : Int} {tail : List (BitVec 8)} (h1 : 0 ≤ n) (h2 : n ≤ 4294967295) (h : At e r (varB (u64 n).toNat ++ tail)) : At e (intR r) tail ∧ ((intR r).E = 0 → intV r = n) := by
  obtain ⟨g1, g2⟩ := word_at h
  have hn := u64_nat h1 h2
  have hs : ¬ 4294967295 < (wordV r).toNat := fun hh => by
    by_cases hE : (wordR r).E = 0
    · rw [g2 hE] at hh; omega
    · rw [wordV_E hE] at hh; simp at hh
  have e1 : intR r = wordR r := by unfold intR; rw [if_neg hs]
  have e2 : intV r = (wordV r).toNat := by unfold intV; rw [if_neg hs]
  rw [e1, e2]
  exact ⟨g1, fun hE => by rw [g2 hE, hn]⟩
theorem many_at {e : Option (List (BitVec 8))} {r : Rdr} {n m k : Int} {tail : List (BitVec 8)} (h1 : 0 ≤ n) (h2 : n ≤ m) (h3 : m ≤ 4294967295) (h : At e r (varB (u64 n).toNat ++ tail)) : At e (manyR r m k) tail ∧ ((manyR r m k).E = 0 → manyV r m k = n) := by
  obtain ⟨g1, g2⟩ := int_at h1 (by omega) h
  have hs : ¬ m < intV r := fun hh => by
    by_cases hE : (intR r).E = 0
    · rw [g2 hE] at hh; omega
    · rw [intV_E hE] at hh; omega
  have e1 : manyR r m k = intR r := by unfold manyR; rw [if_neg hs]
  have e2 : manyV r m k = intV r := by unfold manyV; rw [if_neg hs]
  rw [e1, e2]
  exact ⟨g1, g2⟩
theorem unzig_zig {n : Int} (h : isI64 n) : unzig (zig n) = n := by
  have hz := zig_toNat h
  unfold unzig
  by_cases h0 : 0 ≤ n
  · rw [if_pos h0] at hz
    rw [if_pos (by omega)]; omega
  · rw [if_neg h0] at hz
    rw [if_neg (by omega)]; omega
theorem u64_toNat (w : BitVec 64) : u64 (w.toNat : Int) = w := by unfold u64; simp
/-- A part of a point that may be. -/
def i16 (n : Int) : Prop := -1000 ≤ n ∧ n ≤ 1000
theorem zig_at {e : Option (List (BitVec 8))} {r : Rdr} {n : Int} {tail : List (BitVec 8)} (hn : i16 n) (h : At e r (varB (zig n).toNat ++ tail)) : At e (intR r) tail ∧ ((intR r).E = 0 → zigV r = n) := by
  obtain ⟨n1, n2⟩ := hn
  have hI : isI64 n := ⟨by omega, by omega⟩
  have hz := zig_toNat hI
  have hu := u64_toNat (zig n)
  have hb : ((zig n).toNat : Int) ≤ 4294967295 := by rw [hz]; split <;> omega
  obtain ⟨g1, g2⟩ := int_at (n := ((zig n).toNat : Int)) (by omega) hb (by rw [hu]; exact h)
  refine ⟨g1, fun hE => ?_⟩
  unfold zigV
  rw [g2 hE, hu, unzig_zig hI]
def i16p (p : Pt) : Prop := i16 p.X ∧ i16 p.Y
theorem point_at {e : Option (List (BitVec 8))} {r : Rdr} {p : Pt} {tail : List (BitVec 8)} (hp : i16p p) (h : At e r (varB (zig p.X).toNat ++ (varB (zig p.Y).toNat ++ tail))) : At e (pointR r) tail ∧ ((pointR r).E = 0 → pointV r = p) := by
  obtain ⟨g1, g2⟩ := zig_at hp.1 h
  obtain ⟨g3, g4⟩ := zig_at hp.2 g1
  refine ⟨g3, fun hE => ?_⟩
  have h1 : (intR r).E = 0 := wordR_E (intR_E hE)
  unfold pointV
  rw [g2 h1, g4 hE]
theorem takes_stop {r : Rdr} (h : r.E ≠ 0) (n : Nat) (acc : List Int) : takes n r acc = (r, acc) := by
  cases n with
  | zero => rfl
  | succ n => unfold takes; rw [if_pos h]
theorem takes_at {e : Option (List (BitVec 8))} {tail : List (BitVec 8)} : ∀ (l : List Int) (r : Rdr) (acc : List Int), (∀ n ∈ l, 0 ≤ n ∧ n ≤ 4294967295) → At e r (vars (l.map u64) ++ tail) → At e (takes l.length r acc).1 tail ∧ ((takes l.length r acc).1.E = 0 → (takes l.length r acc).2 = acc ++ l)
  | [], r, acc, hl, h => ⟨h, fun _ => by simp [takes]⟩
  | n :: l, r, acc, hl, h => by
    by_cases hE : r.E = 0
    · rw [List.length_cons, takes, if_neg (by simpa using hE)]
      rw [List.map_cons, vars_cons, List.append_assoc] at h
      obtain ⟨b1, b2⟩ := hl n (by simp)
      obtain ⟨g1, g2⟩ := int_at b1 b2 h
      by_cases hE2 : (intR r).E = 0
      · rw [g2 hE2]
        obtain ⟨g3, g4⟩ := takes_at l (intR r) (acc ++ [n]) (fun m hm => hl m (by simp [hm])) g1
        exact ⟨g3, fun hh => by rw [g4 hh]; simp⟩
      · rw [takes_stop hE2]
        exact ⟨g1.stop hE2, fun hh => absurd hh hE2⟩
    · rw [takes_stop hE]
      exact ⟨h.stop hE, fun hh => absurd hh hE⟩
theorem takes_E : ∀ (n : Nat) (r : Rdr) (acc : List Int), (takes n r acc).1.E = 0 → r.E = 0
  | 0, r, acc, h => h
  | n + 1, r, acc, h => by
    by_cases hE : r.E = 0
    · exact hE
    · rw [takes_stop hE] at h; exact h
theorem manyR_E {r : Rdr} {m k : Int} (hk : k ≠ 0) (h : (manyR r m k).E = 0) : (intR r).E = 0 := by
  unfold manyR at h
  split at h
  · exact absurd h hk
  · exact h
/-- A spec whose numbers can be told. -/
def fitS (x : Spec) : Prop := (0 ≤ x.ID ∧ x.ID ≤ 4294967295) ∧ (0 ≤ x.Prio ∧ x.Prio ≤ 4294967295) ∧ i16p x.From ∧ i16p x.To ∧ x.After.length ≤ 8 ∧ ∀ n ∈ x.After, 0 ≤ n ∧ n ≤ 4294967295
theorem spec_at {e : Option (List (BitVec 8))} {r : Rdr} {x : Spec} {tail : List (BitVec 8)} (hx : fitS x) (h : At e r (vars (specNums x) ++ tail)) : At e (specR r) tail ∧ ((specR r).E = 0 → specV r = x) := by
  obtain ⟨⟨a1, a2⟩, ⟨b1, b2⟩, c, d, l8, f⟩ := hx
  have hs : vars (specNums x) ++ tail = varB (u64 x.ID).toNat ++ (varB (u64 x.Prio).toNat ++ (varB x.Skill.toNat ++ (varB x.Gear.toNat ++ (varB (zig x.From.X).toNat ++ (varB (zig x.From.Y).toNat ++ (varB (zig x.To.X).toNat ++ (varB (zig x.To.Y).toNat ++ (varB (u64 (x.After.length : Int)).toNat ++ (vars (x.After.map u64) ++ tail))))))))) := by
    simp [specNums, vars]
  rw [hs] at h
  obtain ⟨g1, k1⟩ := int_at a1 a2 h
  obtain ⟨g2, k2⟩ := int_at b1 b2 g1
  obtain ⟨g3, k3⟩ := word_at g2
  obtain ⟨g4, k4⟩ := word_at g3
  obtain ⟨g5, k5⟩ := point_at c g4
  obtain ⟨g6, k6⟩ := point_at d g5
  obtain ⟨g7, k7⟩ := many_at (m := 8) (k := 1) (by omega) (by omega) (by decide) g6
  change At e (r7 r) _ at g7
  change (r7 r).E = 0 → manyV (r6 r) 8 1 = _ at k7
  by_cases hE : (r7 r).E = 0
  · have e7 : (manyV (r6 r) 8 1).toNat = x.After.length := by rw [k7 hE]; omega
    obtain ⟨g8, k8⟩ := takes_at x.After (r7 r) [] f g7
    unfold specR specV takeN
    rw [e7]
    refine ⟨g8, fun h0 => ?_⟩
    unfold specR takeN
    rw [e7, if_neg (by rw [h0]; decide)]
    have h6 : (intR (r6 r)).E = 0 := manyR_E (by decide) hE
    have h5 : (r6 r).E = 0 := wordR_E (intR_E h6)
    have h4 : (r5 r).E = 0 := wordR_E (intR_E (wordR_E (intR_E h5)))
    have h3 : (r4 r).E = 0 := wordR_E (intR_E (wordR_E (intR_E h4)))
    have h2 : (r3 r).E = 0 := wordR_E h3
    have h1 : (r2 r).E = 0 := wordR_E h2
    have h0' : (r1 r).E = 0 := wordR_E (intR_E h1)
    unfold spec0
    rw [show intV r = x.ID from k1 h0', show intV (r1 r) = x.Prio from k2 h1, show wordV (r2 r) = x.Skill from k3 h2, show wordV (r3 r) = x.Gear from k4 h3, show pointV (r4 r) = x.From from k5 h4, show pointV (r5 r) = x.To from k6 h5, k8 h0]
    simp
  · have e8 : takeN r = (r7 r, []) := by unfold takeN; exact takes_stop hE _ _
    have e9 : specR r = r7 r := by unfold specR; rw [e8]
    rw [e9]
    exact ⟨g7.stop hE, fun hh => absurd hh hE⟩
attribute [local irreducible] specR specV
theorem takesS_stop {r : Rdr} (h : r.E ≠ 0) (n : Nat) (acc : List Spec) : takesS n r acc = (r, acc) := by
  cases n with
  | zero => rfl
  | succ n => unfold takesS; rw [if_pos h]
theorem takesS_at {e : Option (List (BitVec 8))} {tail : List (BitVec 8)} : ∀ (l : List Spec) (r : Rdr) (acc : List Spec), (∀ x ∈ l, fitS x) → At e r (specsB l ++ tail) → At e (takesS l.length r acc).1 tail ∧ ((takesS l.length r acc).1.E = 0 → (takesS l.length r acc).2 = acc ++ l)
  | [], r, acc, hl, h => ⟨h, fun _ => by simp [takesS]⟩
  | x :: l, r, acc, hl, h => by
    by_cases hE : r.E = 0
    · rw [List.length_cons, takesS, if_neg (by simpa using hE)]
      rw [specsB_cons, List.append_assoc] at h
      obtain ⟨g1, g2⟩ := spec_at (hl x (by simp)) h
      by_cases hE2 : (specR r).E = 0
      · rw [g2 hE2]
        obtain ⟨g3, g4⟩ := takesS_at l (specR r) (acc ++ [x]) (fun m hm => hl m (by simp [hm])) g1
        exact ⟨g3, fun hh => by rw [g4 hh]; simp⟩
      · rw [takesS_stop hE2]
        exact ⟨g1.stop hE2, fun hh => absurd hh hE2⟩
    · rw [takesS_stop hE]
      exact ⟨h.stop hE, fun hh => absurd hh hE⟩
/-- The rest of a command's code. -/
def cmdTail (c : Cmd) : List (BitVec 8) := (if hasID c.Kind then varB (u64 c.ID).toNat else []) ++ ((if hasBits c.Kind then varB c.Bits.toNat else []) ++ if c.Kind = 1 then varB (u64 c.Batch.length).toNat ++ specsB c.Batch else [])
theorem cmdB_eq (c : Cmd) : cmdB c = kb c.Kind :: cmdTail c := rfl
/-- A command whose numbers can be told, and whose other fields are empty. -/
def fitC (c : Cmd) : Prop := (if hasID c.Kind then 0 ≤ c.ID ∧ c.ID ≤ 4294967295 else c.ID = 0) ∧ (hasBits c.Kind = false → c.Bits = 0#64) ∧ (c.Kind ≠ 1 → c.Batch = []) ∧ c.Batch.length ≤ 64 ∧ ∀ x ∈ c.Batch, fitS x
theorem cmd_at {e : Option (List (BitVec 8))} {r : Rdr} {c : Cmd} {tail : List (BitVec 8)} (hc : fitC c) (h : At e r (cmdTail c ++ tail)) : At e (cmdRd r c.Kind) tail ∧ ((cmdRd r c.Kind).E = 0 → cmdC r c.Kind = c) := by
  obtain ⟨K, ID, Bits, Batch⟩ := c
  obtain ⟨c1, c2, c3, c4, c5⟩ := hc
  simp only at c1 c2 c3 c4 c5 ⊢
  unfold cmdTail at h
  simp only at h
  rcases four K with ⟨f1, f2, f3⟩ | ⟨f1, f2, f3⟩ | ⟨f1, f2, f3⟩ | ⟨f1, f2, f3⟩
  · subst f3
    simp only [f1, f2, Bool.false_eq_true, if_false, if_true, List.nil_append, List.append_assoc] at h c1
    have c2 := c2 f2
    subst c1; subst c2
    obtain ⟨g1, k1⟩ := many_at (m := 64) (k := 15) (by omega) (by omega) (by decide) h
    have e0 : cmdT 1 r = takeB r := by simp [cmdT]
    by_cases hE : (manyR r 64 15).E = 0
    · have e7 : (manyV r 64 15).toNat = Batch.length := by rw [k1 hE]; omega
      obtain ⟨g2, k2⟩ := takesS_at Batch (manyR r 64 15) [] c5 g1
      unfold cmdRd cmdC
      rw [e0]
      unfold takeB
      rw [e7]
      refine ⟨g2, fun h0 => ?_⟩
      rw [k2 h0]
      simp [f1, f2]
    · have e8 : cmdRd r 1 = manyR r 64 15 := by unfold cmdRd; rw [e0]; unfold takeB; rw [takesS_stop hE]
      rw [e8]
      exact ⟨g1.stop hE, fun hh => absurd hh hE⟩
  · simp only [f1, f2, f3, if_false, if_true, List.nil_append, List.append_nil, List.append_assoc] at h c1
    have c3 := c3 f3
    subst c3
    obtain ⟨g1, k1⟩ := int_at c1.1 c1.2 h
    obtain ⟨g2, k2⟩ := word_at g1
    have e1 : cmdRd r K = wordR (intR r) := by simp [cmdRd, cmdT, f3, cmdBits, cmdId, f1, f2]
    rw [e1]
    refine ⟨g2, fun hE => ?_⟩
    have hE1 := wordR_E hE
    simp [cmdC, cmdT, f1, f2, f3, cmdId, k1 hE1, k2 hE]
  · simp only [f1, f2, f3, Bool.false_eq_true, if_false, if_true, List.nil_append, List.append_nil] at h c1
    have c2 := c2 f2
    have c3 := c3 f3
    subst c1; subst c2; subst c3
    have e1 : cmdRd r K = r := by simp [cmdRd, cmdT, f3, cmdBits, cmdId, f1, f2]
    rw [e1]
    exact ⟨h, fun _ => by simp [cmdC, cmdT, f1, f2, f3]⟩
  · simp only [f1, f2, f3, Bool.false_eq_true, if_false, if_true, List.nil_append, List.append_nil] at h c1
    have c2 := c2 f2
    have c3 := c3 f3
    subst c2; subst c3
    obtain ⟨g1, k1⟩ := int_at c1.1 c1.2 h
    have e1 : cmdRd r K = intR r := by simp [cmdRd, cmdT, f3, cmdBits, cmdId, f1, f2]
    rw [e1]
    exact ⟨g1, fun hE => by simp [cmdC, cmdT, f1, f2, f3, k1 hE]⟩
end Go.Proofs.Ytoapfffakfmioaa.Sx
