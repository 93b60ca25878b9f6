/- What is written is read again: numbers (packages pack and code), plain. No conditions: a kit of our own. -/
import Derived.Test.YtoapfffakfmioaaBy11
namespace Go.Proofs.Ytoapfffakfmioaa.Sx
open Go Go.RowKit
set_option linter.unusedVariables false
set_option linter.unusedSimpArgs false

theorem pow_step (i : Nat) (h : i ≤ 8) : 2 ^ (64 - 7 * i) = 2 ^ (64 - 7 * (i + 1)) * 128 := by
  have : 64 - 7 * i = (64 - 7 * (i + 1)) + 7 := by omega
  rw [this, Nat.pow_add]
theorem pow_up (i : Nat) : 2 ^ (7 * (i + 1)) = 2 ^ (7 * i) * 128 := by rw [Nat.mul_add, Nat.pow_add]
theorem varB_split (acc i v : Nat) : acc + 2 ^ (7 * i) * (v % 128) + 2 ^ (7 * (i + 1)) * (v / 128) = acc + 2 ^ (7 * i) * v := by
  rw [pow_up, Nat.mul_assoc, Nat.add_assoc, ← Nat.mul_add]
  congr 2; omega
/-- A short form is read again. -/
theorem unv_varB (n : Nat) : ∀ (v i acc : Nat) (rest : List (BitVec 8)), v ≤ n → i ≤ 9 → v < 2 ^ (64 - 7 * i) → (0 < i → v ≠ 0) → unv i acc (varB v ++ rest) = (BitVec.ofNat 64 (acc + 2 ^ (7 * i) * v), rest, 0) := by
  induction n with
  | zero =>
    intro v i acc rest hv hi hlt hne
    have : v = 0 := by omega
    subst this
    have h0 : ¬ 0 < i := fun h => hne h rfl
    have : i = 0 := by omega
    subst this
    rw [varB_lt (by omega)]
    simp [unv, byt]
  | succ n ih =>
    intro v i acc rest hv hi hlt hne
    by_cases h : v < 128
    · rw [varB_lt h]
      have hb : (byt v).toNat = v := by rw [byt_toNat]; omega
      have h9 : i = 9 → v < 2 := fun e => by subst e; exact hlt
      rw [List.singleton_append, unv, hb, if_neg (by omega), if_pos h]
    · rw [varB_ge h]
      have hb : (byt (v % 128 + 128)).toNat = v % 128 + 128 := by rw [byt_toNat]; omega
      have h8 : i ≤ 8 := by
        by_cases e : i = 9
        · subst e; simp at hlt; omega
        · omega
      have hp := pow_step i h8
      rw [List.cons_append, unv, hb, if_neg (by omega), if_neg (by omega), ih (v / 128) (i + 1) _ rest (by omega) (by omega) (by omega) (by omega)]
      have e : v % 128 + 128 - 128 = v % 128 := by omega
      rw [e, varB_split]
/-- What is read as a short form is one. -/
theorem unv_back : ∀ (b : List (BitVec 8)) (i acc : Nat), i ≤ 9 → (unv i acc b).2.2 = 0 → ∃ v, v < 2 ^ (64 - 7 * i) ∧ (0 < i → v ≠ 0) ∧ b = varB v ++ (unv i acc b).2.1 ∧ (unv i acc b).1 = BitVec.ofNat 64 (acc + 2 ^ (7 * i) * v)
  | [], i, acc, hi, h => by simp [unv] at h
  | x :: r, i, acc, hi, h => by
    rw [unv] at h ⊢
    by_cases hbad : i = 9 ∧ 1 < x.toNat ∨ 0 < i ∧ x.toNat = 0
    · rw [if_pos hbad] at h; simp at h
    · rw [if_neg hbad] at h ⊢
      by_cases h128 : x.toNat < 128
      · rw [if_pos h128]
        refine ⟨x.toNat, ?_, by omega, ?_, rfl⟩
        · by_cases e : i = 9
          · subst e; simp; omega
          · have : 2 ^ (64 - 7 * 8) ≤ 2 ^ (64 - 7 * i) := Nat.pow_le_pow_right (by decide) (by omega)
            omega
        · rw [varB_lt h128]
          have : byt x.toNat = x := by simp [byt]
          rw [this]; rfl
      · rw [if_neg h128] at h ⊢
        have h8 : i ≤ 8 := by omega
        have hx := x.isLt
        obtain ⟨v, h1, h2, h3, h4⟩ := unv_back r (i + 1) _ (by omega) h
        have hp := pow_step i h8
        have hv := h2 (by omega)
        refine ⟨x.toNat - 128 + 128 * v, by omega, by omega, ?_, ?_⟩
        · rw [varB_ge (by omega)]
          have e1 : (x.toNat - 128 + 128 * v) % 128 + 128 = x.toNat := by omega
          have e2 : (x.toNat - 128 + 128 * v) / 128 = v := by omega
          have : byt x.toNat = x := by simp [byt]
          rw [e1, e2, this, List.cons_append, ← h3]
        · rw [h4]
          have := varB_split acc i (x.toNat - 128 + 128 * v)
          have e1 : (x.toNat - 128 + 128 * v) % 128 = x.toNat - 128 := by omega
          have e2 : (x.toNat - 128 + 128 * v) / 128 = v := by omega
          rw [e1, e2] at this
          rw [this]
/-- A short form that is cut off is too short. -/
theorem unv_cut (n : Nat) : ∀ (v i acc k : Nat), v ≤ n → i ≤ 9 → v < 2 ^ (64 - 7 * i) → (0 < i → v ≠ 0) → k < (varB v).length → unv i acc ((varB v).take k) = (0#64, [], 4) := by
  induction n with
  | zero =>
    intro v i acc k hv hi hlt hne hk
    rw [varB_lt (by omega)] at hk ⊢
    simp at hk; subst hk
    simp [unv]
  | succ n ih =>
    intro v i acc k hv hi hlt hne hk
    by_cases h : v < 128
    · rw [varB_lt h] at hk ⊢
      simp at hk; subst hk
      simp [unv]
    · rw [varB_ge h] at hk ⊢
      have hb : (byt (v % 128 + 128)).toNat = v % 128 + 128 := by rw [byt_toNat]; omega
      have h8 : i ≤ 8 := by
        by_cases e : i = 9
        · subst e; simp at hlt; omega
        · omega
      have hp := pow_step i h8
      cases k with
      | zero => simp [unv]
      | succ k =>
        rw [List.take_succ_cons, unv, hb, if_neg (by omega), if_neg (by omega)]
        exact ih (v / 128) (i + 1) _ k (by omega) (by omega) (by omega) (by omega) (by simpa using hk)
theorem unvar_varB (w : BitVec 64) (rest : List (BitVec 8)) : unvar (varB w.toNat ++ rest) = (w, rest, 0) := by
  unfold unvar
  rw [unv_varB w.toNat w.toNat 0 0 rest (Nat.le_refl _) (by omega) w.isLt (by omega)]
  simp
theorem unvar_back {b : List (BitVec 8)} (h : (unvar b).2.2 = 0) : b = varB (unvar b).1.toNat ++ (unvar b).2.1 := by
  obtain ⟨v, h1, h2, h3, h4⟩ := unv_back b 0 0 (by omega) h
  unfold unvar
  have e : (unv 0 0 b).1.toNat = v := by
    rw [h4]; simp; omega
  rw [e]; exact h3
theorem unvar_cut (w : BitVec 64) (k : Nat) (h : k < (varB w.toNat).length) : unvar ((varB w.toNat).take k) = (0#64, [], 4) := by
  unfold unvar
  exact unv_cut w.toNat w.toNat 0 0 k (Nat.le_refl _) (by omega) w.isLt (by omega) h
end Go.Proofs.Ytoapfffakfmioaa.Sx
