/- Numbers with a sign as numbers without (package pack, reference 08); rows of bytes held against each other. No conditions: a kit of our own. -/
import Derived.Test.YtoapfffakfmioaaBy2
namespace Go.Proofs.Ytoapfffakfmioaa.Sx
open Go Go.RowKit
set_option linter.unusedVariables false
set_option linter.unusedSimpArgs false

/-- What an int may be. -/
def isI64 (n : Int) : Prop := -9223372036854775808 ≤ n ∧ n ≤ 9223372036854775807
def zig (n : Int) : BitVec 64 := BitVec.ofNat 64 (if 0 ≤ n then 2 * n else -2 * n - 1).toNat
def unzig (w : BitVec 64) : Int := if w.toNat % 2 = 0 then (w.toNat / 2 : Nat) else -((w.toNat / 2 : Nat) : Int) - 1
theorem wrap_i64 (n : Int) (h : isI64 n) : IntKind.i64.wrap n = n := by
  obtain ⟨h1, h2⟩ := h
  simp only [IntKind.wrap, IntKind.signed, IntKind.bits]
  simp
  omega
theorem zig_toNat {n : Int} (h : isI64 n) : ((zig n).toNat : Int) = if 0 ≤ n then 2 * n else -2 * n - 1 := by
  obtain ⟨h1, h2⟩ := h
  unfold zig
  rw [BitVec.toNat_ofNat]
  split <;> omega
theorem xor_ones {x : Nat} (h : x < 18446744073709551616) : x ^^^ 18446744073709551615 = 18446744073709551615 - x := by
  have h1 : (BitVec.ofNat 64 x ^^^ BitVec.allOnes 64) = ~~~ (BitVec.ofNat 64 x) := by
    rw [BitVec.xor_comm, ← BitVec.not_def]
  have h2 := congrArg BitVec.toNat h1
  rw [BitVec.toNat_xor, BitVec.toNat_not, BitVec.toNat_allOnes, BitVec.toNat_ofNat, Nat.mod_eq_of_lt h] at h2
  simpa using h2
theorem det_Zig (n : Int) (hn : isI64 n) : Det Try.prog 73 [en n] [] (en (zig n)) [] := by
  refine det_finF mixed0 knows_nil ok_pack_Zig 1 (by simp) ?_
  simp [ic_pack_Zig, rs_pack_Zig]
  have e64 : IntKind.u64.bits = 64 := rfl
  have e64' : IntKind.i64.bits = 64 := rfl
  rw [e64, e64', zig_toNat hn]
  obtain ⟨h1, h2⟩ := hn
  simp only [wrap_u64]
  by_cases h : 0 ≤ n
  · have hq : n.fdiv (2 ^ min 63 64) = 0 := by
      rw [Int.fdiv_eq_ediv_of_nonneg _ (by decide)]
      exact Int.ediv_eq_zero_of_lt h (by simp; omega)
    rw [hq]
    simp [h]
    omega
  · have hq : n.fdiv (2 ^ min 63 64) = -1 := by
      rw [Int.fdiv_eq_ediv_of_nonneg _ (by decide)]
      simp
      omega
    rw [hq]
    have e1 : (((-1 : Int) % 18446744073709551616) % 2 ^ 64).toNat = 18446744073709551615 := by decide
    rw [e1, xor_ones (by omega)]
    simp [h]
    omega
theorem det_r08_Zig (n : Int) (hn : isI64 n) : Det Try.prog 74 [en n] [] (en (zig n)) [] := by
  refine det_finF mixed0 knows_nil ok_r08_Zig 1 (by simp) ?_
  simp [ic_r08_Zig, rs_r08_Zig]
  rw [zig_toNat hn]
  obtain ⟨h1, h2⟩ := hn
  simp only [wrap_u64]
  refine ⟨fun h => ?_, fun h => ⟨by omega, by omega, ?_⟩⟩
  · simp [h]; omega
  · have h' : ¬ (0 ≤ n) := by omega
    simp [h']; omega
theorem det_Unzig (w : BitVec 64) : Det Try.prog 185 [en w] [] (en (unzig w)) [] := by
  refine det_finF mixed0 knows_nil ok_pack_Unzig 1 (by simp) ?_
  simp [ic_pack_Unzig, rs_pack_Unzig]
  have e64 : IntKind.u64.bits = 64 := rfl
  have e64' : IntKind.i64.bits = 64 := rfl
  have hw := w.isLt
  have ea : w.toNat % 2 ^ 64 &&& 1 % 2 ^ 64 = w.toNat % 2 := by
    have := Nat.and_two_pow_sub_one_eq_mod (w.toNat % 2 ^ 64) 1
    simp at this ⊢
  have hq : (w.toNat : Int).fdiv (2 ^ min 1 64) = ((w.toNat / 2 : Nat) : Int) := by
    rw [Int.fdiv_eq_ediv_of_nonneg _ (by decide)]; simp
  have e1 : IntKind.u64.wrap ((w.toNat % 2 : Nat) : Int) = ((w.toNat % 2 : Nat) : Int) := by rw [wrap_u64]; omega
  have e2 : IntKind.i64.wrap ((w.toNat % 2 : Nat) : Int) = ((w.toNat % 2 : Nat) : Int) := wrap_i64 _ (by unfold isI64; omega)
  have e3 : IntKind.i64.wrap ((w.toNat / 2 : Nat) : Int) = ((w.toNat / 2 : Nat) : Int) := wrap_i64 _ (by unfold isI64; omega)
  rw [e64, e64', ea, hq, e1, e2, e3]
  refine ⟨by omega, ?_⟩
  unfold unzig
  have e4 : (((w.toNat / 2 : Nat) : Int) % 2 ^ 64).toNat = w.toNat / 2 := by omega
  rw [e4]
  by_cases h : w.toNat % 2 = 0
  · rw [h, if_pos rfl]
    simp
    rw [show (w.toNat : Int) / 2 = ((w.toNat / 2 : Nat) : Int) from rfl]
    exact e3
  · have h1 : w.toNat % 2 = 1 := by omega
    rw [h1, if_neg (by decide)]
    have e5 : (-((1 : Nat) : Int) % 2 ^ 64).toNat = 18446744073709551615 := by decide
    rw [e5, xor_ones (by omega)]
    simp only [IntKind.wrap, IntKind.signed, IntKind.bits]
    simp
    omega
theorem det_r08_Unzig (w : BitVec 64) : Det Try.prog 184 [en w] [] (en (unzig w)) [] := by
  refine det_finF mixed0 knows_nil ok_r08_Unzig 1 (by simp) ?_
  simp [ic_r08_Unzig, rs_r08_Unzig]
  have hw := w.isLt
  have hr : (w.toNat : Int).tmod 2 = ((w.toNat % 2 : Nat) : Int) := by rw [Int.tmod_eq_emod_of_nonneg (by omega)]; rfl
  have e3 : IntKind.i64.wrap ((w.toNat : Int) / 2) = ((w.toNat / 2 : Nat) : Int) := wrap_i64 _ (by unfold isI64; omega)
  rw [hr, e3, fits_u64]
  unfold unzig
  refine ⟨fun h => ⟨by omega, ?_⟩, fun h => ⟨by omega, by omega, by omega, ?_⟩⟩
  · rw [if_pos (by omega)]
  · rw [if_neg (by omega)]
theorem strB (x : List (BitVec 8)) : (strOfNums (x.map ((fun y => numOfCell y) ∘ Cel.c))).toList = x.map fun b => UInt8.ofNat b.toNat := by
  unfold strOfNums
  rw [ByteArray.toList_mk]
  simp [List.map_map, Function.comp_def, numOfCell]
theorem u8_inj {x y : List (BitVec 8)} : (x.map fun b => UInt8.ofNat b.toNat) = (y.map fun b => UInt8.ofNat b.toNat) ↔ x = y := by
  refine ⟨fun h => ?_, fun h => by rw [h]⟩
  have := congrArg (List.map UInt8.toBitVec) h
  simp only [List.map_map] at this
  have hid : (UInt8.toBitVec ∘ fun b : BitVec 8 => UInt8.ofNat b.toNat) = id := by
    funext b; simp
  rw [hid, List.map_id, List.map_id] at this
  exact this
theorem det_SameB (x y : List (BitVec 8)) : Det Try.prog 17 [en x, en y] [] (.bool (decide (x = y))) [] := by
  refine det_finF mixed0 knows_nil ok_r08_Same 1 (by simp) ?_
  simp [ic_r08_Same, rs_r08_Same]
  rw [strB, strB, Bool.eq_iff_iff, beq_iff_eq, decide_eq_true_iff]
  exact u8_inj
def cZig : Ctr := C1 (fun n : Int => isI64 n) fun n => en (zig n)
theorem flat_u64 (n : BitVec 64) : Flat (en n) := flat_int _ _
theorem flat_i64 (n : Int) : Flat (en n) := flat_int _ _
theorem known_Zig : Known Try.prog 73 cZig := known_C1 (fun n h => det_Zig n h) fun n => flat_u64 _
theorem known_r08_Zig : Known Try.prog 74 cZig := known_C1 (fun n h => det_r08_Zig n h) fun n => flat_u64 _
def cUnzig : Ctr := C1 (fun w : BitVec 64 => True) fun w => en (unzig w)
theorem known_Unzig : Known Try.prog 185 cUnzig := known_C1 (fun w h => det_Unzig w) fun w => flat_i64 _
theorem known_r08_Unzig : Known Try.prog 184 cUnzig := known_C1 (fun w h => det_r08_Unzig w) fun w => flat_i64 _
def cSameB : Ctr := C2 (fun x y : List (BitVec 8) => True) fun x y => .bool (decide (x = y))
theorem known_SameB : Known Try.prog 17 cSameB := known_C2 (fun x y h => det_SameB x y) fun x y => flat_bool _
end Go.Proofs.Ytoapfffakfmioaa.Sx
