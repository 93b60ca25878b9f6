/- Whole numbers as floating-point words: sums, products and conversions are exact. No conditions: a kit of our own. -/
import Derived.Laws.ComplexArith
import Derived.Laws.Cover2
namespace Go.Proofs.Ytjpgnicgapkndaa.Sx
open Go Ieee
set_option linter.unusedVariables false
set_option linter.unusedSimpArgs false
theorem log2_char {n k : Nat} (h1 : 2 ^ k ≤ n) (h2 : n < 2 ^ (k + 1)) : n.log2 = k := by
  have hn : n ≠ 0 := by have := Nat.two_pow_pos k; omega
  have a : k ≤ n.log2 := (Nat.le_log2 hn).2 h1
  have b : n.log2 < k + 1 := (Nat.log2_lt hn).2 h2
  omega
theorem log2_shift {n : Nat} (h : n ≠ 0) (k : Nat) : (n * 2 ^ k).log2 = n.log2 + k := by
  have h1 : 2 ^ n.log2 ≤ n := Nat.log2_self_le h
  have h2 : n < 2 ^ (n.log2 + 1) := Nat.lt_log2_self
  refine log2_char ?_ ?_
  · rw [Nat.pow_add]; exact Nat.mul_le_mul_right _ h1
  · rw [show n.log2 + k + 1 = n.log2 + 1 + k by omega, Nat.pow_add]; exact Nat.mul_lt_mul_of_pos_right h2 (Nat.two_pow_pos k)
theorem cut0 (s : Bool) (n : Nat) : Toward.even.cut s n 0 = n := by
  simp [Toward.cut, Nat.mod_one]
theorem cut_exact (w : Toward) (s : Bool) (n d : Nat) (hn : n ≠ 0) : w.cut s (n * 2 ^ d) d = n := by
  have hl := log2_shift hn d
  have hg : min d ((n * 2 ^ d).log2 + 2) = d := by rw [hl]; omega
  have hp := Nat.two_pow_pos d
  simp only [Toward.cut, hg, Nat.one_shiftLeft, Nat.mul_mod_left, Nat.mul_div_cancel _ hp]
  have h0 : ¬ 2 ^ d < 0 := by omega
  have h1 : ¬ 2 ^ d = 0 := by omega
  cases w <;> simp [h1]
/-- A number below 2^53, written. -/
theorem near_exact (s : Bool) (c k : Nat) (h0 : c ≠ 0) (hc : c < 2 ^ 53) (hk : k ≤ 5000) : double.nearest s (c * 2 ^ k) (-(k : Int)) = double.word s ((c.log2 + 1022) * 2 ^ 52 + c * 2 ^ (52 - c.log2)) := by
  have hL : c.log2 ≤ 52 := by have := (Nat.log2_lt h0).2 hc; omega
  have hm : c * 2 ^ k ≠ 0 := Nat.mul_ne_zero h0 (by have := Nat.two_pow_pos k; omega)
  have hlp : double.leastPlace = -1074 := by decide
  have hfb : double.fractionBits = 52 := rfl
  have hbi : double.binade = 2 ^ 52 := rfl
  have hir : double.infRung = 2047 * 2 ^ 52 := rfl
  unfold Format.nearest
  rw [if_neg hm, hlp, hfb, hbi, hir, log2_shift h0]
  have hlast : max (-(k : Int) + ((c.log2 + k : Nat) : Int) - (52 : Nat)) (-1074) = (c.log2 : Int) - 52 := by omega
  have hkept : Toward.even.cut s ((c * 2 ^ k) <<< (-(k : Int) - ((c.log2 : Int) - 52)).toNat) (((c.log2 : Int) - 52) - -(k : Int)).toNat = c * 2 ^ (52 - c.log2) := by
    rw [Nat.shiftLeft_eq]
    by_cases h : 52 - c.log2 ≤ k
    · have e1 : (-(k : Int) - ((c.log2 : Int) - 52)).toNat = 0 := by omega
      have e2 : (((c.log2 : Int) - 52) - -(k : Int)).toNat = k - (52 - c.log2) := by omega
      rw [e1, e2, Nat.pow_zero, Nat.mul_one]
      have e3 : c * 2 ^ k = c * 2 ^ (52 - c.log2) * 2 ^ (k - (52 - c.log2)) := by
        rw [Nat.mul_assoc, ← Nat.pow_add]; congr 2; omega
      rw [e3]
      exact cut_exact _ _ _ _ (Nat.mul_ne_zero h0 (by have := Nat.two_pow_pos (52 - c.log2); omega))
    · have e1 : (-(k : Int) - ((c.log2 : Int) - 52)).toNat = 52 - c.log2 - k := by omega
      have e2 : (((c.log2 : Int) - 52) - -(k : Int)).toNat = 0 := by omega
      rw [e1, e2, cut0, Nat.mul_assoc, ← Nat.pow_add]; congr 2; omega
  simp only [hlast, hkept]
  have e4 : ((c.log2 : Int) - 52 - -1074).toNat = c.log2 + 1022 := by omega
  rw [e4]
  have hb : c * 2 ^ (52 - c.log2) < 2 ^ 53 := by
    have h2 : c < 2 ^ (c.log2 + 1) := Nat.lt_log2_self
    calc c * 2 ^ (52 - c.log2) < 2 ^ (c.log2 + 1) * 2 ^ (52 - c.log2) := Nat.mul_lt_mul_of_pos_right h2 (Nat.two_pow_pos _)
      _ = 2 ^ 53 := by rw [← Nat.pow_add]; congr 1; omega
  rw [Nat.min_eq_left (by
    generalize c * 2 ^ (52 - c.log2) = v at hb
    omega)]
theorem read_norm (s : Bool) (L m : Nat) (hL : L ≤ 52) (h1 : 2 ^ 52 ≤ m) (h2 : m < 2 ^ 53) : double.read (double.word s ((L + 1022) * 2 ^ 52 + m)) = .number s m (-((52 - L : Nat) : Int)) := by
  have hsw : double.signWeight = 2 ^ 63 := rfl
  have hbi : double.binade = 2 ^ 52 := rfl
  have hir : double.infRung = 2047 * 2 ^ 52 := rfl
  have hlp : double.leastPlace = -1074 := by decide
  have hr : (L + 1022) * 2 ^ 52 + m < 2 ^ 63 := by omega
  have e1 : double.word s ((L + 1022) * 2 ^ 52 + m) % 2 ^ 63 = (L + 1022) * 2 ^ 52 + m := by
    unfold Format.word; rw [hsw]; cases s
    · simp; omega
    · simp; omega
  have e2 : (double.word s ((L + 1022) * 2 ^ 52 + m) / 2 ^ 63 % 2 == 1) = s := by
    unfold Format.word; rw [hsw]; cases s
    · simp; omega
    · simp; omega
  unfold Format.read
  rw [hsw, hbi, hir, hlp, e1, e2]
  have h3 : ¬ (L + 1022) * 2 ^ 52 + m < 2 ^ 52 := by omega
  have h4 : (L + 1022) * 2 ^ 52 + m < 2047 * 2 ^ 52 := by omega
  simp only [h3, h4, if_true, if_false]
  have h5 : 2 ^ 52 + ((L + 1022) * 2 ^ 52 + m) % 2 ^ 52 = m := by omega
  have h6 : (-1074 : Int) + ((((L + 1022) * 2 ^ 52 + m) / 2 ^ 52 - 1 : Nat) : Int) = -((52 - L : Nat) : Int) := by omega
  rw [h5, h6]
theorem read_zero (s : Bool) : double.read (double.word s 0) = .number s 0 (-1074) := by
  cases s <;> decide
/-- A word that stands for a whole number. -/
def Rep (w : Nat) (n : Int) : Prop := ∃ (s : Bool) (m k : Nat), k ≤ 1074 ∧ double.read w = .number s m (-(k : Int)) ∧ signed s m 0 = n * 2 ^ k
theorem signed_shift (s : Bool) (m j : Nat) : signed s m j = signed s m 0 * 2 ^ j := by
  unfold signed; rw [Nat.shiftLeft_eq, Nat.shiftLeft_eq]
  cases s <;> simp [Int.neg_mul]
theorem signed_abs {s : Bool} {m : Nat} {z : Int} (h : signed s m 0 = z) : m = z.natAbs ∧ (z ≠ 0 → s = decide (z < 0)) := by
  unfold signed at h
  cases s <;> simp at h <;> subst h <;> simp <;> omega
theorem rep_write {s : Bool} {z : Int} {K : Nat} (hz : z.natAbs < 2 ^ 53) (hK : K ≤ 5000) (hs : z ≠ 0 → s = decide (z < 0)) : Rep (double.write (.number s (z.natAbs * 2 ^ K) (-(K : Int)))) z := by
  unfold Format.write
  by_cases h0 : z = 0
  · subst h0
    refine ⟨s, 0, 1074, Nat.le_refl _, ?_, ?_⟩
    · simp only [Int.natAbs_zero, Nat.zero_mul]
      rw [show double.nearest s 0 (-(K : Int)) = double.word s 0 by simp [Format.nearest]]
      exact read_zero s
    · rw [Int.zero_mul]; cases s <;> rfl
  · have hn : z.natAbs ≠ 0 := by omega
    simp only []
    rw [near_exact s _ K hn hz hK]
    have hL : z.natAbs.log2 ≤ 52 := by have := (Nat.log2_lt hn).2 hz; omega
    have h1 : 2 ^ z.natAbs.log2 ≤ z.natAbs := Nat.log2_self_le hn
    have h2 : z.natAbs < 2 ^ (z.natAbs.log2 + 1) := Nat.lt_log2_self
    have g1 : 2 ^ 52 ≤ z.natAbs * 2 ^ (52 - z.natAbs.log2) := by
      calc 2 ^ 52 = 2 ^ z.natAbs.log2 * 2 ^ (52 - z.natAbs.log2) := by rw [← Nat.pow_add]; congr 1; omega
        _ ≤ _ := Nat.mul_le_mul_right _ h1
    have g2 : z.natAbs * 2 ^ (52 - z.natAbs.log2) < 2 ^ 53 := by
      calc _ < 2 ^ (z.natAbs.log2 + 1) * 2 ^ (52 - z.natAbs.log2) := Nat.mul_lt_mul_of_pos_right h2 (Nat.two_pow_pos _)
        _ = 2 ^ 53 := by rw [← Nat.pow_add]; congr 1; omega
    refine ⟨s, _, 52 - z.natAbs.log2, by omega, read_norm s _ _ hL g1 g2, ?_⟩
    have := hs h0
    subst this
    unfold signed
    by_cases hneg : z < 0
    · simp [hneg]
      rw [show z = -(z.natAbs : Int) by omega]; simp [Int.neg_mul]
    · simp [hneg]
      rw [show z = (z.natAbs : Int) by omega]; simp
theorem rep_int {n : Int} (h : n.natAbs < 2 ^ 53) : Rep (floatOfInt .f64 n) n := by
  have := rep_write (s := decide (n < 0)) (K := 0) h (by omega) (fun _ => rfl)
  simpa [floatOfInt, FloatKind.nearest, FloatKind.encode, FloatKind.format] using this
theorem rep_sum_at {a b : Datum} {x y : Int} {s t : Bool} {m n k l : Nat} (ha : a = .number s m (-(k : Int))) (hb : b = .number t n (-(l : Int))) (hk : k ≤ 1074) (hl : l ≤ 1074) (hx : signed s m 0 = x * 2 ^ k) (hy : signed t n 0 = y * 2 ^ l) (hz : (x + y).natAbs < 2 ^ 53) :
    ∃ r, (a.sum b).map double.write = some r ∧ Rep r (x + y) := by
  subst ha; subst hb
  have key : ∀ K : Nat, k ≤ K → l ≤ K → signed s m (K - k) + signed t n (K - l) = (x + y) * 2 ^ K := fun K h1 h2 => by
    rw [signed_shift, signed_shift t, hx, hy, Int.mul_assoc, Int.mul_assoc, ← Int.pow_add, ← Int.pow_add, Int.add_mul]
    congr 3 <;> omega
  let K := max k l
  have hmin : min (-(k : Int)) (-(l : Int)) = -(K : Int) := by simp only [K]; omega
  have e1 : (-(k : Int) - -(K : Int)).toNat = K - k := by simp only [K]; omega
  have e2 : (-(l : Int) - -(K : Int)).toNat = K - l := by simp only [K]; omega
  have hKle : K ≤ 5000 := by simp only [K]; omega
  simp only [Datum.sum, hmin, e1, e2, key K (by simp only [K]; omega) (by simp only [K]; omega), Option.map_some]
  refine ⟨_, rfl, ?_⟩
  have hp : (0 : Int) < 2 ^ K := Int.pow_pos (by decide)
  have hab : ((x + y) * 2 ^ K).natAbs = (x + y).natAbs * 2 ^ K := by rw [Int.natAbs_mul, Int.natAbs_pow]; rfl
  rw [hab]
  refine rep_write hz hKle fun h0 => ?_
  have hne : ¬ (x + y) * 2 ^ K = 0 := fun h => by
    rcases Int.mul_eq_zero.1 h with h | h
    · exact h0 h
    · omega
  rw [if_neg hne]
  congr 1
  rw [eq_iff_iff]
  constructor
  · intro h
    apply Decidable.byContradiction
    intro h'
    have := Int.mul_nonneg (show 0 ≤ x + y by omega) (Int.le_of_lt hp)
    omega
  · intro h
    exact Int.mul_neg_of_neg_of_pos h hp
theorem rep_add {a b : Nat} {x y : Int} (ha : Rep a x) (hb : Rep b y) (hz : (x + y).natAbs < 2 ^ 53) : ∃ r, floatBits .add .f64 a b = some r ∧ Rep r (x + y) := by
  obtain ⟨s, m, k, hk, h1, h2⟩ := ha
  obtain ⟨t, n, l, hl, h3, h4⟩ := hb
  exact rep_sum_at h1 h3 hk hl h2 h4 hz
theorem rep_sub {a b : Nat} {x y : Int} (ha : Rep a x) (hb : Rep b y) (hz : (x - y).natAbs < 2 ^ 53) : ∃ r, floatBits .sub .f64 a b = some r ∧ Rep r (x - y) := by
  obtain ⟨s, m, k, hk, h1, h2⟩ := ha
  obtain ⟨t, n, l, hl, h3, h4⟩ := hb
  have h5 : (double.read b).opposite = .number (!t) n (-(l : Int)) := by rw [h3]; rfl
  have h6 : signed (!t) n 0 = -y * 2 ^ l := by
    rw [Int.neg_mul, ← h4]; unfold signed; cases t <;> simp
  have := rep_sum_at h1 h5 hk hl h2 h6 (by rwa [← Int.sub_eq_add_neg])
  rwa [← Int.sub_eq_add_neg] at this
theorem rep_mul {a b : Nat} {x y : Int} (ha : Rep a x) (hb : Rep b y) (hz : (x * y).natAbs < 2 ^ 53) : ∃ r, floatBits .mul .f64 a b = some r ∧ Rep r (x * y) := by
  obtain ⟨s, m, k, hk, h1, h2⟩ := ha
  obtain ⟨t, n, l, hl, h3, h4⟩ := hb
  have e : floatBits .mul .f64 a b = ((double.read a).product (double.read b)).map double.write := rfl
  rw [e, h1, h3]
  simp only [Datum.product, Option.map_some]
  refine ⟨_, rfl, ?_⟩
  obtain ⟨m1, m2⟩ := signed_abs h2
  obtain ⟨n1, n2⟩ := signed_abs h4
  have q1 : m * n = (x * y).natAbs * 2 ^ (k + l) := by
    rw [m1, n1, Int.natAbs_mul, Int.natAbs_mul, Int.natAbs_mul, Int.natAbs_pow, Int.natAbs_pow, Nat.pow_add]
    simp [Nat.mul_mul_mul_comm]
  have q2 : -(k : Int) + -(l : Int) = -((k + l : Nat) : Int) := by omega
  rw [q1, q2]
  refine rep_write hz (by omega) fun h0 => ?_
  have hp : (0 : Int) < 2 ^ k := Int.pow_pos (by decide)
  have hq : (0 : Int) < 2 ^ l := Int.pow_pos (by decide)
  have hx0 : x ≠ 0 := fun h => h0 (by rw [h, Int.zero_mul])
  have hy0 : y ≠ 0 := fun h => h0 (by rw [h, Int.mul_zero])
  have sx : s = decide (x < 0) := by
    rw [m2 (fun h => by rcases Int.mul_eq_zero.1 h with h | h; exact hx0 h; omega)]
    congr 1; rw [eq_iff_iff]
    constructor
    · intro h; apply Decidable.byContradiction; intro h'
      have := Int.mul_nonneg (show 0 ≤ x by omega) (Int.le_of_lt hp); omega
    · intro h; exact Int.mul_neg_of_neg_of_pos h hp
  have sy : t = decide (y < 0) := by
    rw [n2 (fun h => by rcases Int.mul_eq_zero.1 h with h | h; exact hy0 h; omega)]
    congr 1; rw [eq_iff_iff]
    constructor
    · intro h; apply Decidable.byContradiction; intro h'
      have := Int.mul_nonneg (show 0 ≤ y by omega) (Int.le_of_lt hq); omega
    · intro h; exact Int.mul_neg_of_neg_of_pos h hq
  rw [sx, sy]
  by_cases c1 : x < 0 <;> by_cases c2 : y < 0
  · have := Int.mul_pos_of_neg_of_neg c1 c2; simp [c1, c2]; omega
  · have := Int.mul_neg_of_neg_of_pos c1 (show 0 < y by omega); simp [c1, c2]; omega
  · have := Int.mul_neg_of_pos_of_neg (show 0 < x by omega) c2; simp [c1, c2]; omega
  · have := Int.mul_pos (show 0 < x by omega) (show 0 < y by omega); simp [c1, c2]; omega
theorem rep_toInt {a : Nat} {x : Int} (ha : Rep a x) (h1 : -9223372036854775808 ≤ x) (h2 : x ≤ 9223372036854775807) : floatToIntVal .f64 a .i64 = some x := by
  obtain ⟨s, m, k, hk, h3, h4⟩ := ha
  have hd : FloatKind.f64.decode a = .number s m (-(k : Int)) := h3
  have hp : (0 : Int) < 2 ^ k := Int.pow_pos (by decide)
  obtain ⟨m1, m2⟩ := signed_abs h4
  have e1 : m = x.natAbs * 2 ^ k := by rw [m1, Int.natAbs_mul, Int.natAbs_pow]; rfl
  have hcut : Toward.zero.cut s (m <<< (-(k : Int)).toNat) (- -(k : Int)).toNat = x.natAbs := by
    have z1 : (-(k : Int)).toNat = 0 := by omega
    have z2 : (- -(k : Int)).toNat = k := by omega
    rw [z1, z2, Nat.shiftLeft_zero, e1]
    by_cases h0 : x.natAbs = 0
    · rw [h0]; simp [Toward.cut]
    · exact cut_exact _ _ _ _ h0
  have ht : (FloatKind.f64.decode a).toInt .zero = some x := by
    rw [hd]
    simp only [Datum.toInt, Datum.integral, hcut]
    congr 1
    by_cases h0 : x = 0
    · subst h0; unfold signed; cases s <;> rfl
    · have hx : x * 2 ^ k ≠ 0 := fun h => by rcases Int.mul_eq_zero.1 h with h | h; exact h0 h; omega
      rw [m2 hx]
      unfold signed
      by_cases c : x < 0
      · have := Int.mul_neg_of_neg_of_pos c hp
        simp [this]; omega
      · have := Int.mul_nonneg (show 0 ≤ x by omega) (Int.le_of_lt hp)
        have h' : ¬ x * 2 ^ k < 0 := by omega
        simp [h']; omega
  unfold floatToIntVal
  rw [ht]
  have e3 : IntKind.i64.min = -9223372036854775808 := by decide
  have e4 : IntKind.i64.max = 9223372036854775807 := by decide
  simp only [e3, e4, h1, h2, and_self, if_true]
end Go.Proofs.Ytjpgnicgapkndaa.Sx
