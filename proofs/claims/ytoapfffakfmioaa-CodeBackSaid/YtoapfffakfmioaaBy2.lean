/- Numbers as bytes, and back (package pack, reference 08). No conditions: a kit of our own. -/
import Derived.Test.YtoapfffakfmioaaBy1
import Derived.Test.YtoapfffakfmioaaTy8
namespace Go.Proofs.Ytoapfffakfmioaa.Sx
open Go Go.RowKit
set_option linter.unusedVariables false
set_option linter.unusedSimpArgs false

def cVar : Ctr := V2 (fun (b : List (BitVec 8)) (w : BitVec 64) => b.length ≤ 1000000000) fun b w => en (b ++ varB w.toNat)
theorem known_Var : Known Try.prog 131 cVar := known_V2 (fun b w h => det_Var b w h) fun b w h => closed_en _
theorem det_r08_Var (b : List (BitVec 8)) (w : BitVec 64) (hb : b.length ≤ 1000000000) : Det Try.prog 64 [en b, en w] [] (en (b ++ varB w.toNat)) [] := by
  refine det_finF mixed0 knows_nil ok_r08_Var 1 (by simp) ?_
  simp [ic_r08_Var, rs_r08_Var]
  refine ⟨by omega, ?_⟩
  refine LoopC.genR (fun a : List (BitVec 8) × Nat => ⟨[(1, .int .u64 a.2), (5, .sl 0 0 (b.length + a.1.length))], [.rows 1 ((b ++ a.1).map Cel.c)]⟩)
    (fun a => varB w.toNat = a.1 ++ varB a.2 ∧ a.2 < 2 ^ (64 - 7 * a.1.length) ∧ a.1.length ≤ 9) (fun a => a.2) ([], w.toNat) [1] (by simp [atR]) ⟨rfl, w.isLt, by simp⟩ fun ⟨acc, v⟩ ⟨h1, h2, h3⟩ => ?_
  simp only at h1 h2 h3
  by_cases hv : v < 128
  · rw [varB_lt hv] at h1
    rw [h1]
    have hv' : ¬ (128 ≤ v) := by omega
    simp [hv', wrap_u8, byt_toNat]
    have ht : (List.map Cel.c b ++ (List.map Cel.c acc ++ [[AV.int IntKind.u8 ((v:Int) % 256)]])).length = b.length + acc.length + 1 := by simp; omega
    rw [List.take_of_length_le (by omega)]
    refine ⟨by omega, ⟨by omega, ?_⟩, rfl⟩
    simp only [List.mem_append, List.mem_map, List.mem_singleton]
    rintro row (⟨a, _, rfl⟩ | ⟨a, _, rfl⟩ | rfl) <;> simp
  · rw [varB_ge hv] at h1
    have hv' : 128 ≤ v := by omega
    have hw : v / 128 < 2 ^ (64 - 7 * (acc.length + 1)) := by
      have : ∀ n ≤ 9, (2:Nat) ^ (64 - 7 * n) ≤ 128 * 2 ^ (64 - 7 * (n + 1)) := by decide
      have := this acc.length h3
      omega
    have hl : acc.length ≤ 8 := by
      by_cases h9 : acc.length = 9
      · rw [h9] at h2; omega
      · omega
    simp [hv', wrap_u8, wrap_u64, byt_toNat]
    have h264 : (2:Nat) ^ (64 - 7 * acc.length) ≤ 2 ^ 64 := Nat.pow_le_pow_right (by decide) (by omega)
    have hf : fits .u64 ((v : Int) / 128) := by rw [fits_u64]; omega
    refine ⟨by omega, hf, acc ++ [byt (v % 128 + 128)], v / 128, ⟨[1], ?_⟩, ⟨by simpa using h1, by simpa using hw, by simp; omega⟩, by omega⟩
    have hr : (v : Int).tmod 128 = v % 128 := Int.tmod_eq_emod_of_nonneg (by omega)
    simp [atR, byt_toNat, hr]
    omega
theorem known_r08_Var : Known Try.prog 64 cVar := known_V2 (fun b w h => det_r08_Var b w h) fun b w h => closed_en _
theorem det_CloneB (l : List (BitVec 8)) (hl : l.length ≤ 1000000000) : Det Try.prog 130 [en l] [] (en l) [] := by
  refine det_finF mixed0 knows_nil ok_slices_Clone_byte_byte 1 (by simp) ?_
  simp [ic_slices_Clone_byte_byte, rs_slices_Clone_byte_byte]
  try omega
def cCloneB : Ctr := V1 (fun l : List (BitVec 8) => l.length ≤ 1000000000) fun l => en l
theorem known_CloneB : Known Try.prog 130 cCloneB := known_V1 (fun l h => det_CloneB l h) fun l h => closed_en _

/-! ### back -/
def unv : Nat → Nat → List (BitVec 8) → BitVec 64 × List (BitVec 8) × Int
  | _, _, [] => (0#64, [], 4)
  | i, w, x :: r => if i = 9 ∧ 1 < x.toNat ∨ 0 < i ∧ x.toNat = 0 then (0#64, [], 3) else if x.toNat < 128 then (BitVec.ofNat 64 (w + 2 ^ (7 * i) * x.toNat), r, 0) else unv (i + 1) (w + 2 ^ (7 * i) * (x.toNat - 128)) r
def unvar (b : List (BitVec 8)) : BitVec 64 × List (BitVec 8) × Int := unv 0 0 b
def unvV (b : List (BitVec 8)) : AV := .tup [.int .u64 (unvar b).1.toNat, .view ((unvar b).2.1.map Cel.c), .int .i64 (unvar b).2.2]
theorem closed_unvV (b : List (BitVec 8)) : Closed (unvV b) := by
  unfold unvV
  refine .tup rfl fun i a b h1 h2 => ?_
  rw [h1] at h2; cases h2
  have := List.mem_of_getElem? h1
  simp at this
  rcases this with rfl | rfl | rfl
  · exact .int _ _
  · exact closed_viewc _
  · exact .int _ _
theorem pow7 {i : Nat} (h : i ≤ 9) : 2 ^ (7 * i) ≤ 2 ^ 63 := Nat.pow_le_pow_right (by decide) (by omega)
theorem pow7' {i : Nat} (h : i ≤ 8) : 2 ^ (7 * i) * 128 ≤ 2 ^ 63 := by
  have : 2 ^ (7 * i) * 128 = 2 ^ (7 * i + 7) := by rw [Nat.pow_add]
  rw [this]
  exact Nat.pow_le_pow_right (by decide) (by omega)
theorem step_lt {w i n : Nat} (hw : w < 2 ^ (7 * i)) (hi : i ≤ 9) (hf : i = 9 → n % 128 ≤ 1) : w + 2 ^ (7 * i) * (n % 128) < 2 ^ 64 ∧ 2 ^ (7 * i) * (n % 128) < 2 ^ 64 := by
  have h63 := pow7 hi
  by_cases h : i = 9
  · have h1 := hf h
    have : 2 ^ (7 * i) * (n % 128) ≤ 2 ^ (7 * i) * 1 := Nat.mul_le_mul_left _ h1
    omega
  · have h2 := pow7' (show i ≤ 8 by omega)
    have : 2 ^ (7 * i) * (n % 128) ≤ 2 ^ (7 * i) * 128 := Nat.mul_le_mul_left _ (by omega)
    omega
theorem step_next {w i n : Nat} (hw : w < 2 ^ (7 * i)) : w + 2 ^ (7 * i) * (n % 128) < 2 ^ (7 * (i + 1)) := by
  have : 2 ^ (7 * (i + 1)) = 2 ^ (7 * i) * 128 := by rw [Nat.mul_add, Nat.pow_add]
  rw [this]
  have : 2 ^ (7 * i) * (n % 128) ≤ 2 ^ (7 * i) * 127 := Nat.mul_le_mul_left _ (by omega)
  omega
theorem or_step {w i n : Nat} (hw : w < 2 ^ (7 * i)) (hi : i ≤ 9) (hn : n < 256) (hf : i = 9 → n % 128 ≤ 1) :
    IntKind.u64.wrap ((w % 2 ^ IntKind.u64.bits ||| (IntKind.u64.wrap (IntKind.u8.wrap ((n % 2 ^ IntKind.u8.bits &&& 127 % 2 ^ IntKind.u8.bits : Nat) : Int) * 2 ^ min (7 * (i : Int)).toNat IntKind.u64.bits) % 2 ^ IntKind.u64.bits).toNat : Nat) : Int) = ((w + 2 ^ (7 * i) * (n % 128) : Nat) : Int) := by
  obtain ⟨h1, h2⟩ := step_lt hw hi hf
  have e64 : IntKind.u64.bits = 64 := rfl
  have e8 : IntKind.u8.bits = 8 := rfl
  have em : min (7 * (i : Int)).toNat 64 = 7 * i := by omega
  have ea : n % 2 ^ 8 &&& 127 % 2 ^ 8 = n % 128 := by
    have := Nat.and_two_pow_sub_one_eq_mod (n % 2 ^ 8) 7
    simp at this ⊢
    omega
  have h63 := pow7 hi
  rw [e64, e8, em, ea, wrap_u8, wrap_u64, wrap_u64]
  have e1 : ((n % 128 : Nat) : Int) % 256 * 2 ^ (7 * i) = ((2 ^ (7 * i) * (n % 128) : Nat) : Int) := by
    have : ((n % 128 : Nat) : Int) % 256 = ((n % 128 : Nat) : Int) := by omega
    rw [this]; push_cast; rw [Int.mul_comm]
  rw [e1]
  have e2 : ((((2 ^ (7 * i) * (n % 128) : Nat) : Int) % 18446744073709551616) % 2 ^ 64).toNat = 2 ^ (7 * i) * (n % 128) := by omega
  rw [e2]
  have e3 : w % 2 ^ 64 = w := by omega
  rw [e3, Nat.or_comm, ← Nat.two_pow_add_eq_or_of_lt hw]
  omega
theorem fit_and (n : Nat) : fits IntKind.u64 (IntKind.u8.wrap ((n % 2 ^ IntKind.u8.bits &&& 127 % 2 ^ IntKind.u8.bits : Nat) : Int)) := by
  rw [fits_u64, wrap_u8]; omega
theorem det_pack_Unvar (b : List (BitVec 8)) (hb : b.length ≤ 1000000000) : Det Try.prog 183 [en b] [] (unvV b) [] := by
  refine det_finF mixed0 knows_nil ok_pack_Unvar 2 (by simp) ?_
  simp [ic_pack_Unvar, rs_pack_Unvar]
  refine BackC.scanB 0#8 b (fun i (w : Nat) => ⟨[(0, .view (b.map Cel.c)), (5, .int .u64 w), (6, .int .i64 i)], []⟩) (fun i w r => unvar b = unv i w r ∧ w < 2 ^ (7 * i) ∧ i ≤ 9) (by simp) (by simp; rfl) (fun i a r w hi ha hd ⟨hG, hw, h9⟩ => ?_) fun w ⟨hG, hw, h9⟩ => ?_
  · have hi' : i ≠ b.length := by omega
    have hdr : List.drop (i + 1) b = r := by rw [drop_nth 0#8 hi] at hd; exact (List.cons.inj hd).2
    have hcl := closed_viewc r
    rw [unv] at hG
    by_cases hbad : i = 9 ∧ 1 < a.toNat ∨ 0 < i ∧ a.toNat = 0
    · rw [if_pos hbad] at hG
      simp [hi, hi', ha, vcLoose, unvV, hG]
      exact ⟨fun e1 e2 e3 => by exfalso; omega, fun e1 e2 => by exfalso; omega⟩
    · rw [if_neg hbad] at hG
      have hal := a.isLt
      have hos := or_step hw h9 (show a.toNat < 256 by omega) (fun h => by omega)
      obtain ⟨hlt, -⟩ := step_lt hw h9 (n := a.toNat) (fun h => by omega)
      have hn := step_next (n := a.toNat) hw
      have hfa := fit_and a.toNat
      by_cases h128 : a.toNat < 128
      · rw [if_pos h128] at hG
        rw [Nat.mod_eq_of_lt h128] at hos hlt
        have hq : ¬ (128 ≤ a.toNat) := by omega
        simp [hi, hi', ha, vcLoose, unvV, hG, hos, h128, hq, hfa]
        refine ⟨fun e1 e2 => by exfalso; omega, fun e1 => ⟨by omega, fun e2 => ⟨by omega, by omega, by omega, by omega, ?_, ?_, ?_⟩⟩⟩
        · rw [← List.map_drop, hdr]; exact hcl
        · have e : (w : Int) + 2 ^ (7 * i) * (a.toNat : Int) = ((w + 2 ^ (7 * i) * a.toNat : Nat) : Int) := by push_cast; rfl
          rw [e]; omega
        · rw [← List.map_drop, hdr]
      · rw [if_neg h128] at hG
        have hm : a.toNat - 128 = a.toNat % 128 := by omega
        have hq : 128 ≤ a.toNat := by omega
        rw [hm] at hG
        simp [hi, hi', ha, vcLoose, hos, h128, hq, hfa]
        refine ⟨fun e1 e2 => by exfalso; omega, fun e1 => ⟨fun e2 e3 => by exfalso; omega, fun e2 => ⟨by omega, by omega, by omega, ⟨_, by push_cast; rfl, hG, hn, by omega⟩⟩⟩⟩
  · simp [unvV, hG, unv]
theorem wmul_step {w i n : Nat} (h1 : w + 2 ^ (7 * i) * (n % 128) < 2 ^ 64) :
    IntKind.u64.wrap (w + IntKind.u64.wrap (2 ^ (7 * i) * (n : Int).tmod 128)) = ((w + 2 ^ (7 * i) * (n % 128) : Nat) : Int) := by
  have hr : (n : Int).tmod 128 = ((n % 128 : Nat) : Int) := by rw [Int.tmod_eq_emod_of_nonneg (by omega)]; rfl
  have e1 : (2 : Int) ^ (7 * i) * ((n % 128 : Nat) : Int) = ((2 ^ (7 * i) * (n % 128) : Nat) : Int) := by push_cast; rfl
  rw [hr, e1, wrap_u64, wrap_u64]
  omega
theorem wmul_next {i : Nat} (h : i ≤ 8) : IntKind.u64.wrap (2 ^ (7 * i) * 128) = 2 ^ (7 * (i + 1)) := by
  have h2 := pow7' h
  have e1 : (2 : Int) ^ (7 * i) * 128 = ((2 ^ (7 * i) * 128 : Nat) : Int) := by push_cast; rfl
  have e2 : (2 : Int) ^ (7 * (i + 1)) = ((2 ^ (7 * i) * 128 : Nat) : Int) := by rw [Nat.mul_add, Int.pow_add]; push_cast; rfl
  rw [e1, e2, wrap_u64]
  omega
theorem fit_mod (n : Nat) : fits IntKind.u64 ((n : Int).tmod 128) := by
  rw [fits_u64, Int.tmod_eq_emod_of_nonneg (by omega)]; omega
def cUnvar : Ctr := V1 (fun b : List (BitVec 8) => b.length ≤ 1000000000) fun b => unvV b
theorem known_Unvar : Known Try.prog 183 cUnvar := known_V1 (fun b h => det_pack_Unvar b h) fun b h => closed_unvV b
theorem det_r08_Unvar (b : List (BitVec 8)) (hb : b.length ≤ 1000000000) : Det Try.prog 135 [en b] [] (unvV b) [] := by
  refine det_finF mixed0 knows_nil ok_r08_Unvar 2 (by simp) ?_
  simp [ic_r08_Unvar, rs_r08_Unvar]
  refine LoopC.scanB 0#8 b (fun i (w : Nat) => ⟨[(0, .view (b.map Cel.c)), (5, .int .u64 w), (6, .int .u64 (2 ^ (7 * i))), (7, .int .i64 i)], []⟩) (fun i w r => unvar b = unv i w r ∧ w < 2 ^ (7 * i) ∧ i ≤ 9) 0 (by simp) (by simp) (by simp; rfl) (fun i a r w hi ha hd ⟨hG, hw, h9⟩ => ?_) fun w ⟨hG, hw, h9⟩ => ?_
  · have hi' : i ≠ b.length := by omega
    have hdr : List.drop (i + 1) b = r := by rw [drop_nth 0#8 hi] at hd; exact (List.cons.inj hd).2
    have hcl := closed_viewc r
    rw [unv] at hG
    by_cases hbad : i = 9 ∧ 1 < a.toNat ∨ 0 < i ∧ a.toNat = 0
    · rw [if_pos hbad] at hG
      simp [hi, hi', ha, vcLoose, unvV, hG]
      exact ⟨fun e1 => by omega, fun e1 e2 => by exfalso; omega⟩
    · rw [if_neg hbad] at hG
      have hal := a.isLt
      obtain ⟨hlt, -⟩ := step_lt hw h9 (n := a.toNat) (fun h => by omega)
      have hn := step_next (n := a.toNat) hw
      by_cases h128 : a.toNat < 128
      · rw [if_pos h128] at hG
        rw [Nat.mod_eq_of_lt h128] at hlt
        have hq : ¬ (128 ≤ a.toNat) := by omega
        have hms := wmul_step (w := w) (i := i) (n := a.toNat) (by rw [Nat.mod_eq_of_lt h128]; exact hlt)
        rw [Nat.mod_eq_of_lt h128] at hms
        simp [hi, hi', ha, vcLoose, unvV, hG, h128, hq, fit_mod, hms]
        have hl : (List.drop (i + 1) (List.map Cel.c b)).length = b.length - (i + 1) := by simp
        rw [List.take_of_length_le (by omega), ← List.map_drop, hdr]
        refine ⟨fun e1 => by omega, ⟨by omega, by omega⟩, fun e1 e2 => ⟨⟨by omega, by omega⟩, ⟨by omega, by omega⟩, ⟨fun x hx => ?_, by omega⟩, fun row hr a ha => ?_, ?_, rfl⟩⟩
        · obtain ⟨y, _, rfl⟩ := List.mem_map.1 hx; rfl
        · obtain ⟨y, _, rfl⟩ := List.mem_map.1 hr
          exact Cel.closed y a ha
        · have e : (w : Int) + 2 ^ (7 * i) * (a.toNat : Int) = ((w + 2 ^ (7 * i) * a.toNat : Nat) : Int) := by push_cast; rfl
          rw [e]; omega
      · rw [if_neg h128] at hG
        have hm : a.toNat - 128 = a.toNat % 128 := by omega
        have hq : 128 ≤ a.toNat := by omega
        rw [hm] at hG
        have hms := wmul_step (w := w) (i := i) (n := a.toNat) hlt
        have h8 : i ≤ 8 := by omega
        simp [hi, hi', ha, vcLoose, h128, hq, fit_mod, hms, wmul_next h8, h8]
        refine ⟨fun e1 => by omega, fun e1 => by exfalso; omega, fun e1 e2 => ⟨⟨by omega, by omega⟩, _, by push_cast; rfl, hG, hn⟩⟩
  · simp [unvV, hG, unv]
theorem known_r08_Unvar : Known Try.prog 135 cUnvar := known_V1 (fun b h => det_r08_Unvar b h) fun b h => closed_unvV b
end Go.Proofs.Ytoapfffakfmioaa.Sx
