/- Numbers as bytes (package pack, reference 08): what the functions give. No conditions: a kit of our own. -/
import Derived.Test.YtnckibgcjgeekaaGreatFnA2
import Derived.Test.YtnckibgcjgeekaaGreatIrL29
import Derived.Test.YtnckibgcjgeekaaGreatTy8
namespace Go.Proofs.YtnckibgcjgeekaaGreat.Sx
open Go Go.RowKit
set_option linter.unusedVariables false
set_option linter.unusedSimpArgs false

theorem wrap_u64 (n : Int) : IntKind.u64.wrap n = n % 18446744073709551616 := by
  simp [IntKind.wrap, IntKind.signed, IntKind.bits]
theorem wrap_u8 (n : Int) : IntKind.u8.wrap n = n % 256 := by
  simp [IntKind.wrap, IntKind.signed, IntKind.bits]
theorem fits_u64 (n : Int) : fits .u64 n ↔ 0 ≤ n ∧ n < 18446744073709551616 := by
  unfold fits; rw [wrap_u64]; constructor <;> intro h <;> omega
/-- A byte of a number. -/
def byt (n : Nat) : BitVec 8 := BitVec.ofNat 8 n
theorem byt_toNat (n : Nat) : (byt n).toNat = n % 256 := by simp [byt]
/-- A number's short form. -/
def varB (w : Nat) : List (BitVec 8) := if h : w < 128 then [byt w] else byt (w % 128 + 128) :: varB (w / 128)
termination_by w
decreasing_by omega
theorem varB_lt {w : Nat} (h : w < 128) : varB w = [byt w] := by rw [varB]; simp [h]
theorem varB_ge {w : Nat} (h : ¬ w < 128) : varB w = byt (w % 128 + 128) :: varB (w / 128) := by rw [varB]; simp [h]

theorem det_ClipB (x : AV) (H : List AObj) (h1 : lenP x H) (h2 : slc3P x H 1 (numOf (lenV x))) (h3 : isNum (lenV x)) (h4 : 0 ≤ numOf (lenV x)) : Det Tryz.prog 142 [x] H (slc3V x (numOf (lenV x))) H := by
  refine det_fin0 mixed0 knows_nil ok_slices_Clip_byte_byte (by simp) ?_
  simp [-isNum, -numOf, ic_slices_Clip_byte_byte, rs_slices_Clip_byte_byte, h1, h2, h3, h4]
def cClipB : Ctr := pureH (fun a H => ∃ x, a = [x] ∧ lenP x H ∧ slc3P x H 1 (numOf (lenV x)) ∧ isNum (lenV x) ∧ 0 ≤ numOf (lenV x)) fun a H => slc3V (nth a 0 .any) (numOf (lenV (nth a 0 .any)))
theorem known_ClipB : Known Tryz.prog 142 cClipB := by
  rintro args H ⟨x, rfl, h1, h2, h3, h4⟩
  exact det_ClipB x H h1 h2 h3 h4

theorem fdiv_nat (a b : Nat) : (a : Int).fdiv (b : Int) = ((a / b : Nat) : Int) := by
  rw [Int.fdiv_eq_ediv_of_nonneg _ (by omega)]; rfl
theorem or_128 : ∀ x : BitVec 8, (x ||| 128#8).toNat = x.toNat % 128 + 128 := by decide
theorem or_128' (v : Nat) : (((BitVec.ofInt 8 ((v : Int) % 256) ||| 128#8).toNat : Nat) : Int) % 256 = ((v : Int) % 128 + 128) % 256 := by
  rw [or_128]; simp; omega
theorem det_behind_cv (b m : List (List AV)) (hb1 : ∀ x ∈ b, x.length = 1) (hm1 : ∀ x ∈ m, x.length = 1) (hm : m ≠ []) (hl : b.length + m.length ≤ 1073741824) (H : List AObj) : Det Tryz.prog 143 [.cv b, .view m] H (.sl H.length 0 (b.length + m.length)) (H ++ [.rows 1 (b ++ m)]) := by
  refine det_fin0 mixed0 (knows_cons known_ClipB knows_nil) ok_pack_behind (by simp) ?_
  simp [ic_pack_behind, rs_pack_behind, cClipB, pureH, hm, hl]
  exact ⟨hb1, hm1, hb1⟩
theorem det_behind_sl (b m : List (List AV)) (hm1 : ∀ x ∈ m, x.length = 1) (hm : m ≠ []) (hl : b.length + m.length ≤ 1073741824) (G : List AObj) (i : Nat) (hi : G[i]? = some (.rows 1 b)) : Det Tryz.prog 143 [.sl i 0 b.length, .view m] G (.sl G.length 0 (b.length + m.length)) (G.set i .dead ++ [.rows 1 (b ++ m)]) := by
  refine det_fin0 mixed0 (knows_cons known_ClipB knows_nil) ok_pack_behind (by simp) ?_
  simp [ic_pack_behind, rs_pack_behind, cClipB, pureH, hm, hl, hi]
  exact hm1
def behP (H : List AObj) : AV → AV → Prop
  | .cv b, .view m => (∀ x ∈ b, x.length = 1) ∧ (∀ x ∈ m, x.length = 1) ∧ m ≠ [] ∧ b.length + m.length ≤ 1073741824
  | .sl i r l, .view m => isRows H i ∧ szOf H i = 1 ∧ r = 0 ∧ l = (rowsOf H i).length ∧ (∀ x ∈ m, x.length = 1) ∧ m ≠ [] ∧ l + m.length ≤ 1073741824
  | _, _ => False
def behV (H : List AObj) : AV → AV → AV
  | .cv b, .view m => .sl H.length 0 (b.length + m.length)
  | .sl i r l, .view m => .sl H.length 0 (l + m.length)
  | _, _ => .any
def behH (H : List AObj) : AV → AV → List AObj
  | .cv b, .view m => H ++ [.rows 1 (b ++ m)]
  | .sl i r l, .view m => H.set i .dead ++ [.rows 1 (rowsOf H i ++ m)]
  | _, _ => H
@[simp] theorem behP_cv (H : List AObj) (b m : List (List AV)) : behP H (.cv b) (.view m) = ((∀ x ∈ b, x.length = 1) ∧ (∀ x ∈ m, x.length = 1) ∧ m ≠ [] ∧ b.length + m.length ≤ 1073741824) := rfl
@[simp] theorem behP_sl (H : List AObj) (i r l : Nat) (m : List (List AV)) : behP H (.sl i r l) (.view m) = (isRows H i ∧ szOf H i = 1 ∧ r = 0 ∧ l = (rowsOf H i).length ∧ (∀ x ∈ m, x.length = 1) ∧ m ≠ [] ∧ l + m.length ≤ 1073741824) := rfl
@[simp] theorem behV_cv (H : List AObj) (b m : List (List AV)) : behV H (.cv b) (.view m) = .sl H.length 0 (b.length + m.length) := rfl
@[simp] theorem behV_sl (H : List AObj) (i r l : Nat) (m : List (List AV)) : behV H (.sl i r l) (.view m) = .sl H.length 0 (l + m.length) := rfl
@[simp] theorem behH_cv (H : List AObj) (b m : List (List AV)) : behH H (.cv b) (.view m) = H ++ [.rows 1 (b ++ m)] := rfl
@[simp] theorem behH_sl (H : List AObj) (i r l : Nat) (m : List (List AV)) : behH H (.sl i r l) (.view m) = H.set i .dead ++ [.rows 1 (rowsOf H i ++ m)] := rfl
def cBehind : Ctr := ⟨fun a H => a.length = 2 ∧ behP H (nth a 0 .any) (nth a 1 .any), fun a H => behV H (nth a 0 .any) (nth a 1 .any), fun a H => behH H (nth a 0 .any) (nth a 1 .any)⟩
theorem known_Behind : Known Tryz.prog 143 cBehind := by
  rintro args H ⟨hl, hp⟩
  match args, hl with
  | [x, y], _ =>
    simp only [cBehind, nth_zero, nth_succ] at hp ⊢
    unfold behP at hp
    split at hp
    · obtain ⟨h1, h2, h3, h4⟩ := hp
      exact det_behind_cv _ _ h1 h2 h3 h4 H
    · rename_i i r l m
      obtain ⟨h1, h2, rfl, rfl, h5, h6, h7⟩ := hp
      obtain ⟨sz, rs, e, e1, e2⟩ := isRows_some h1
      rw [e2] at h2
      subst h2
      simp only [behV_sl, behH_sl, e1] at h7 ⊢
      exact det_behind_sl _ _ h5 h6 h7 H _ e
    · exact hp.elim
theorem det_Var (b : List (BitVec 8)) (w : BitVec 64) (hb : b.length ≤ 1000000000) : Det Tryz.prog 122 [en b, en w] [] (en (b ++ varB w.toNat)) [] := by
  refine det_finF mixed0 (knows_cons known_ClipB (knows_cons known_Behind knows_nil)) ok_pack_Var 1 (by simp) ?_
  simp [ic_pack_Var, rs_pack_Var, cClipB, cBehind, pureH]
  refine BackC.genR (fun a : List (BitVec 8) × Nat => ⟨[(1, .int .u64 a.2), (5, if a.1 = [] then .cv (b.map Cel.c) else .sl 0 0 (b.length + a.1.length))], [if a.1 = [] then .dead else .rows 1 ((b ++ a.1).map Cel.c)]⟩)
    (fun a => varB w.toNat = a.1 ++ varB a.2 ∧ a.2 < 2 ^ (64 - 7 * a.1.length) ∧ a.1.length ≤ 9) (fun a => a.2) ?_ fun ⟨acc, v⟩ ⟨h1, h2, h3⟩ => ?_
  · simp
    exact ⟨[], w.toNat, ⟨[0], by simp [atR]⟩, rfl, w.isLt, by simp⟩
  · simp only at h1 h2 h3
    have hq : (v : Int).fdiv (2 ^ 7) = ((v / 128 : Nat) : Int) := fdiv_nat v 128
    by_cases hv : v < 128
    · rw [varB_lt hv] at h1
      rw [h1]
      by_cases ha : acc = []
      · subst ha
        simp [hv, cBehind, cClipB, pureH, wrap_u8, byt_toNat]
        refine ⟨by omega, ?_⟩
        rintro row (⟨a, _, rfl⟩ | rfl) <;> simp
      · simp [hv, ha, cBehind, cClipB, pureH, wrap_u8, byt_toNat]
        have ht : (List.map Cel.c b ++ (List.map Cel.c acc ++ [[AV.int IntKind.u8 ((v:Int) % 256)]])).length = b.length + acc.length + 1 := by simp; omega
        rw [List.take_of_length_le (by omega)]
        refine ⟨by omega, ⟨by omega, ?_⟩, rfl⟩
        simp only [List.mem_append, List.mem_map, List.mem_singleton]
        rintro row (⟨a, _, rfl⟩ | ⟨a, _, rfl⟩ | rfl) <;> simp
    · rw [varB_ge hv] at h1
      have hw : v / 128 < 2 ^ (64 - 7 * (acc.length + 1)) := by
        have : ∀ n ≤ 9, (2:Nat) ^ (64 - 7 * n) ≤ 128 * 2 ^ (64 - 7 * (n + 1)) := by decide
        have := this acc.length h3
        omega
      have hl : acc.length ≤ 8 := by
        by_cases h9 : acc.length = 9
        · rw [h9] at h2; omega
        · omega
      have hor : (((v : Int) % 256 % 256).toNat ||| 128) % 256 = v % 128 + 128 := by
        have := or_128 (BitVec.ofNat 8 v)
        simp at this
        have e : ((v : Int) % 256 % 256).toNat = v % 256 := by omega
        rw [e]
        omega
      by_cases ha : acc = []
      · subst ha
        simp [hv, cBehind, cClipB, pureH, wrap_u8, wrap_u64, byt_toNat, IntKind.bits, hq, hor]
        refine ⟨by omega, [byt (v % 128 + 128)], v / 128, ⟨[1], ?_⟩, ⟨h1, hw, by simp⟩, by omega⟩
        simp [atR, byt_toNat]
        refine ⟨hq, ?_⟩
        exact or_128' v
      · simp [hv, ha, cBehind, cClipB, pureH, wrap_u8, wrap_u64, byt_toNat, IntKind.bits, hq, hor]
        refine ⟨by omega, acc ++ [byt (v % 128 + 128)], v / 128, ⟨[1], ?_⟩, ⟨by simpa using h1, by simpa using hw, by simp; omega⟩, by omega⟩
        simp [atR, byt_toNat]
        refine ⟨⟨hq, by omega⟩, ?_⟩
        exact or_128' v
end Go.Proofs.YtnckibgcjgeekaaGreat.Sx
/- Numbers as bytes, and back (package pack, reference 08). No conditions: a kit of our own. -/
namespace Go.Proofs.YtnckibgcjgeekaaGreat.Sx
open Go Go.RowKit
set_option linter.unusedVariables false
set_option linter.unusedSimpArgs false

def cVar : Ctr := V2 (fun (b : List (BitVec 8)) (w : BitVec 64) => b.length ≤ 1000000000) fun b w => en (b ++ varB w.toNat)
theorem known_Var : Known Tryz.prog 122 cVar := known_V2 (fun b w h => det_Var b w h) fun b w h => closed_en _
theorem det_r08_Var (b : List (BitVec 8)) (w : BitVec 64) (hb : b.length ≤ 1000000000) : Det Tryz.prog 64 [en b, en w] [] (en (b ++ varB w.toNat)) [] := by
  refine det_finF mixed0 knows_nil ok_r08_Var 1 (by simp) ?_
  simp [ic_r08_Var, rs_r08_Var]
  refine ⟨by omega, ?_⟩
  refine LoopC.genR (fun a : List (BitVec 8) × Nat => ⟨[(1, .int .u64 a.2), (5, .sl 0 0 (b.length + a.1.length))], [.rows 1 ((b ++ a.1).map Cel.c)]⟩)
    (fun a => varB w.toNat = a.1 ++ varB a.2 ∧ a.2 < 2 ^ (64 - 7 * a.1.length) ∧ a.1.length ≤ 9) (fun a => a.2) ([], w.toNat) [1] (by simp [atR]) ⟨rfl, w.isLt, by simp⟩ fun ⟨acc, v⟩ ⟨h1, h2, h3⟩ => ?_
  simp only at h1 h2 h3
  by_cases hv : v < 128
  · rw [varB_lt hv] at h1
    rw [h1]
    have hv' : ¬ (128 ≤ v) := by omega
    simp [hv', wrap_u8, byt_toNat]
    have ht : (List.map Cel.c b ++ (List.map Cel.c acc ++ [[AV.int IntKind.u8 ((v:Int) % 256)]])).length = b.length + acc.length + 1 := by simp; omega
    rw [List.take_of_length_le (by omega)]
    refine ⟨by omega, ⟨by omega, ?_⟩, rfl⟩
    simp only [List.mem_append, List.mem_map, List.mem_singleton]
    rintro row (⟨a, _, rfl⟩ | ⟨a, _, rfl⟩ | rfl) <;> simp
  · rw [varB_ge hv] at h1
    have hv' : 128 ≤ v := by omega
    have hw : v / 128 < 2 ^ (64 - 7 * (acc.length + 1)) := by
      have : ∀ n ≤ 9, (2:Nat) ^ (64 - 7 * n) ≤ 128 * 2 ^ (64 - 7 * (n + 1)) := by decide
      have := this acc.length h3
      omega
    have hl : acc.length ≤ 8 := by
      by_cases h9 : acc.length = 9
      · rw [h9] at h2; omega
      · omega
    simp [hv', wrap_u8, wrap_u64, byt_toNat]
    have h264 : (2:Nat) ^ (64 - 7 * acc.length) ≤ 2 ^ 64 := Nat.pow_le_pow_right (by decide) (by omega)
    have hf : fits .u64 ((v : Int) / 128) := by rw [fits_u64]; omega
    refine ⟨by omega, hf, acc ++ [byt (v % 128 + 128)], v / 128, ⟨[1], ?_⟩, ⟨by simpa using h1, by simpa using hw, by simp; omega⟩, by omega⟩
    have hr : (v : Int).tmod 128 = v % 128 := Int.tmod_eq_emod_of_nonneg (by omega)
    simp [atR, byt_toNat, hr]
    omega
theorem known_r08_Var : Known Tryz.prog 64 cVar := known_V2 (fun b w h => det_r08_Var b w h) fun b w h => closed_en _
theorem det_CloneB (l : List (BitVec 8)) (hl : l.length ≤ 1000000000) : Det Tryz.prog 123 [en l] [] (en l) [] := by
  refine det_finF mixed0 knows_nil ok_slices_Clone_byte_byte 1 (by simp) ?_
  simp [ic_slices_Clone_byte_byte, rs_slices_Clone_byte_byte]
  try omega
def cCloneB : Ctr := V1 (fun l : List (BitVec 8) => l.length ≤ 1000000000) fun l => en l
theorem known_CloneB : Known Tryz.prog 123 cCloneB := known_V1 (fun l h => det_CloneB l h) fun l h => closed_en _

/-! ### back -/
def unv : Nat → Nat → List (BitVec 8) → BitVec 64 × List (BitVec 8) × Int
  | _, _, [] => (0#64, [], 4)
  | i, w, x :: r => if i = 9 ∧ 1 < x.toNat ∨ 0 < i ∧ x.toNat = 0 then (0#64, [], 3) else if x.toNat < 128 then (BitVec.ofNat 64 (w + 2 ^ (7 * i) * x.toNat), r, 0) else unv (i + 1) (w + 2 ^ (7 * i) * (x.toNat - 128)) r
def unvar (b : List (BitVec 8)) : BitVec 64 × List (BitVec 8) × Int := unv 0 0 b
def unvV (b : List (BitVec 8)) : AV := .tup [.int .u64 (unvar b).1.toNat, .view ((unvar b).2.1.map Cel.c), .int .i64 (unvar b).2.2]
theorem closed_unvV (b : List (BitVec 8)) : Closed (unvV b) := by
  unfold unvV
  refine .tup rfl fun i a b h1 h2 => ?_
  rw [h1] at h2; cases h2
  have := List.mem_of_getElem? h1
  simp at this
  rcases this with rfl | rfl | rfl
  · exact .int _ _
  · exact closed_viewc _
  · exact .int _ _
theorem pow7 {i : Nat} (h : i ≤ 9) : 2 ^ (7 * i) ≤ 2 ^ 63 := Nat.pow_le_pow_right (by decide) (by omega)
theorem pow7' {i : Nat} (h : i ≤ 8) : 2 ^ (7 * i) * 128 ≤ 2 ^ 63 := by
  have : 2 ^ (7 * i) * 128 = 2 ^ (7 * i + 7) := by rw [Nat.pow_add]
  rw [this]
  exact Nat.pow_le_pow_right (by decide) (by omega)
theorem step_lt {w i n : Nat} (hw : w < 2 ^ (7 * i)) (hi : i ≤ 9) (hf : i = 9 → n % 128 ≤ 1) : w + 2 ^ (7 * i) * (n % 128) < 2 ^ 64 ∧ 2 ^ (7 * i) * (n % 128) < 2 ^ 64 := by
  have h63 := pow7 hi
  by_cases h : i = 9
  · have h1 := hf h
    have : 2 ^ (7 * i) * (n % 128) ≤ 2 ^ (7 * i) * 1 := Nat.mul_le_mul_left _ h1
    omega
  · have h2 := pow7' (show i ≤ 8 by omega)
    have : 2 ^ (7 * i) * (n % 128) ≤ 2 ^ (7 * i) * 128 := Nat.mul_le_mul_left _ (by omega)
    omega
theorem step_next {w i n : Nat} (hw : w < 2 ^ (7 * i)) : w + 2 ^ (7 * i) * (n % 128) < 2 ^ (7 * (i + 1)) := by
  have : 2 ^ (7 * (i + 1)) = 2 ^ (7 * i) * 128 := by rw [Nat.mul_add, Nat.pow_add]
  rw [this]
  have : 2 ^ (7 * i) * (n % 128) ≤ 2 ^ (7 * i) * 127 := Nat.mul_le_mul_left _ (by omega)
  omega
theorem or_step {w i n : Nat} (hw : w < 2 ^ (7 * i)) (hi : i ≤ 9) (hn : n < 256) (hf : i = 9 → n % 128 ≤ 1) :
    IntKind.u64.wrap ((w % 2 ^ IntKind.u64.bits ||| (IntKind.u64.wrap (IntKind.u8.wrap ((n % 2 ^ IntKind.u8.bits &&& 127 % 2 ^ IntKind.u8.bits : Nat) : Int) * 2 ^ min (7 * (i : Int)).toNat IntKind.u64.bits) % 2 ^ IntKind.u64.bits).toNat : Nat) : Int) = ((w + 2 ^ (7 * i) * (n % 128) : Nat) : Int) := by
  obtain ⟨h1, h2⟩ := step_lt hw hi hf
  have e64 : IntKind.u64.bits = 64 := rfl
  have e8 : IntKind.u8.bits = 8 := rfl
  have em : min (7 * (i : Int)).toNat 64 = 7 * i := by omega
  have ea : n % 2 ^ 8 &&& 127 % 2 ^ 8 = n % 128 := by
    have := Nat.and_two_pow_sub_one_eq_mod (n % 2 ^ 8) 7
    simp at this ⊢
    omega
  have h63 := pow7 hi
  rw [e64, e8, em, ea, wrap_u8, wrap_u64, wrap_u64]
  have e1 : ((n % 128 : Nat) : Int) % 256 * 2 ^ (7 * i) = ((2 ^ (7 * i) * (n % 128) : Nat) : Int) := by
    have : ((n % 128 : Nat) : Int) % 256 = ((n % 128 : Nat) : Int) := by omega
    rw [this]; push_cast; rw [Int.mul_comm]
  rw [e1]
  have e2 : ((((2 ^ (7 * i) * (n % 128) : Nat) : Int) % 18446744073709551616) % 2 ^ 64).toNat = 2 ^ (7 * i) * (n % 128) := by omega
  rw [e2]
  have e3 : w % 2 ^ 64 = w := by omega
  rw [e3, Nat.or_comm, ← Nat.two_pow_add_eq_or_of_lt hw]
  omega
theorem fit_and (n : Nat) : fits IntKind.u64 (IntKind.u8.wrap ((n % 2 ^ IntKind.u8.bits &&& 127 % 2 ^ IntKind.u8.bits : Nat) : Int)) := by
  rw [fits_u64, wrap_u8]; omega
theorem det_pack_Unvar (b : List (BitVec 8)) (hb : b.length ≤ 1000000000) : Det Tryz.prog 126 [en b] [] (unvV b) [] := by
  refine det_finF mixed0 knows_nil ok_pack_Unvar 2 (by simp) ?_
  simp [ic_pack_Unvar, rs_pack_Unvar]
  refine BackC.scanB 0#8 b (fun i (w : Nat) => ⟨[(0, .view (b.map Cel.c)), (5, .int .u64 w), (6, .int .i64 i)], []⟩) (fun i w r => unvar b = unv i w r ∧ w < 2 ^ (7 * i) ∧ i ≤ 9) (by simp) (by simp; rfl) (fun i a r w hi ha hd ⟨hG, hw, h9⟩ => ?_) fun w ⟨hG, hw, h9⟩ => ?_
  · have hi' : i ≠ b.length := by omega
    have hdr : List.drop (i + 1) b = r := by rw [drop_nth 0#8 hi] at hd; exact (List.cons.inj hd).2
    have hcl := closed_viewc r
    rw [unv] at hG
    by_cases hbad : i = 9 ∧ 1 < a.toNat ∨ 0 < i ∧ a.toNat = 0
    · rw [if_pos hbad] at hG
      simp [hi, hi', ha, vcLoose, unvV, hG]
      exact ⟨fun e1 e2 e3 => by exfalso; omega, fun e1 e2 => by exfalso; omega⟩
    · rw [if_neg hbad] at hG
      have hal := a.isLt
      have hos := or_step hw h9 (show a.toNat < 256 by omega) (fun h => by omega)
      obtain ⟨hlt, -⟩ := step_lt hw h9 (n := a.toNat) (fun h => by omega)
      have hn := step_next (n := a.toNat) hw
      have hfa := fit_and a.toNat
      by_cases h128 : a.toNat < 128
      · rw [if_pos h128] at hG
        rw [Nat.mod_eq_of_lt h128] at hos hlt
        have hq : ¬ (128 ≤ a.toNat) := by omega
        simp [hi, hi', ha, vcLoose, unvV, hG, hos, h128, hq, hfa]
        refine ⟨fun e1 e2 => by exfalso; omega, fun e1 => ⟨by omega, fun e2 => ⟨by omega, by omega, by omega, by omega, ?_, ?_, ?_⟩⟩⟩
        · rw [← List.map_drop, hdr]; exact hcl
        · have e : (w : Int) + 2 ^ (7 * i) * (a.toNat : Int) = ((w + 2 ^ (7 * i) * a.toNat : Nat) : Int) := by push_cast; rfl
          rw [e]; omega
        · rw [← List.map_drop, hdr]
      · rw [if_neg h128] at hG
        have hm : a.toNat - 128 = a.toNat % 128 := by omega
        have hq : 128 ≤ a.toNat := by omega
        rw [hm] at hG
        simp [hi, hi', ha, vcLoose, hos, h128, hq, hfa]
        refine ⟨fun e1 e2 => by exfalso; omega, fun e1 => ⟨fun e2 e3 => by exfalso; omega, fun e2 => ⟨by omega, by omega, by omega, ⟨_, by push_cast; rfl, hG, hn, by omega⟩⟩⟩⟩
  · simp [unvV, hG, unv]
theorem wmul_step {w i n : Nat} (h1 : w + 2 ^ (7 * i) * (n % 128) < 2 ^ 64) :
    IntKind.u64.wrap (w + IntKind.u64.wrap (2 ^ (7 * i) * (n : Int).tmod 128)) = ((w + 2 ^ (7 * i) * (n % 128) : Nat) : Int) := by
  have hr : (n : Int).tmod 128 = ((n % 128 : Nat) : Int) := by rw [Int.tmod_eq_emod_of_nonneg (by omega)]; rfl
  have e1 : (2 : Int) ^ (7 * i) * ((n % 128 : Nat) : Int) = ((2 ^ (7 * i) * (n % 128) : Nat) : Int) := by push_cast; rfl
  rw [hr, e1, wrap_u64, wrap_u64]
  omega
theorem wmul_next {i : Nat} (h : i ≤ 8) : IntKind.u64.wrap (2 ^ (7 * i) * 128) = 2 ^ (7 * (i + 1)) := by
  have h2 := pow7' h
  have e1 : (2 : Int) ^ (7 * i) * 128 = ((2 ^ (7 * i) * 128 : Nat) : Int) := by push_cast; rfl
  have e2 : (2 : Int) ^ (7 * (i + 1)) = ((2 ^ (7 * i) * 128 : Nat) : Int) := by rw [Nat.mul_add, Int.pow_add]; push_cast; rfl
  rw [e1, e2, wrap_u64]
  omega
theorem fit_mod (n : Nat) : fits IntKind.u64 ((n : Int).tmod 128) := by
  rw [fits_u64, Int.tmod_eq_emod_of_nonneg (by omega)]; omega
def cUnvar : Ctr := V1 (fun b : List (BitVec 8) => b.length ≤ 1000000000) fun b => unvV b
theorem known_Unvar : Known Tryz.prog 126 cUnvar := known_V1 (fun b h => det_pack_Unvar b h) fun b h => closed_unvV b
theorem det_r08_Unvar (b : List (BitVec 8)) (hb : b.length ≤ 1000000000) : Det Tryz.prog 127 [en b] [] (unvV b) [] := by
  refine det_finF mixed0 knows_nil ok_r08_Unvar 2 (by simp) ?_
  simp [ic_r08_Unvar, rs_r08_Unvar]
  refine LoopC.scanB 0#8 b (fun i (w : Nat) => ⟨[(0, .view (b.map Cel.c)), (5, .int .u64 w), (6, .int .u64 (2 ^ (7 * i))), (7, .int .i64 i)], []⟩) (fun i w r => unvar b = unv i w r ∧ w < 2 ^ (7 * i) ∧ i ≤ 9) 0 (by simp) (by simp) (by simp; rfl) (fun i a r w hi ha hd ⟨hG, hw, h9⟩ => ?_) fun w ⟨hG, hw, h9⟩ => ?_
  · have hi' : i ≠ b.length := by omega
    have hdr : List.drop (i + 1) b = r := by rw [drop_nth 0#8 hi] at hd; exact (List.cons.inj hd).2
    have hcl := closed_viewc r
    rw [unv] at hG
    by_cases hbad : i = 9 ∧ 1 < a.toNat ∨ 0 < i ∧ a.toNat = 0
    · rw [if_pos hbad] at hG
      simp [hi, hi', ha, vcLoose, unvV, hG]
      exact ⟨fun e1 => by omega, fun e1 e2 => by exfalso; omega⟩
    · rw [if_neg hbad] at hG
      have hal := a.isLt
      obtain ⟨hlt, -⟩ := step_lt hw h9 (n := a.toNat) (fun h => by omega)
      have hn := step_next (n := a.toNat) hw
      by_cases h128 : a.toNat < 128
      · rw [if_pos h128] at hG
        rw [Nat.mod_eq_of_lt h128] at hlt
        have hq : ¬ (128 ≤ a.toNat) := by omega
        have hms := wmul_step (w := w) (i := i) (n := a.toNat) (by rw [Nat.mod_eq_of_lt h128]; exact hlt)
        rw [Nat.mod_eq_of_lt h128] at hms
        simp [hi, hi', ha, vcLoose, unvV, hG, h128, hq, fit_mod, hms]
        have hl : (List.drop (i + 1) (List.map Cel.c b)).length = b.length - (i + 1) := by simp
        rw [List.take_of_length_le (by omega), ← List.map_drop, hdr]
        refine ⟨fun e1 => by omega, ⟨by omega, by omega⟩, fun e1 e2 => ⟨⟨by omega, by omega⟩, ⟨by omega, by omega⟩, ⟨fun x hx => ?_, by omega⟩, fun row hr a ha => ?_, ?_, rfl⟩⟩
        · obtain ⟨y, _, rfl⟩ := List.mem_map.1 hx; rfl
        · obtain ⟨y, _, rfl⟩ := List.mem_map.1 hr
          exact Cel.closed y a ha
        · have e : (w : Int) + 2 ^ (7 * i) * (a.toNat : Int) = ((w + 2 ^ (7 * i) * a.toNat : Nat) : Int) := by push_cast; rfl
          rw [e]; omega
      · rw [if_neg h128] at hG
        have hm : a.toNat - 128 = a.toNat % 128 := by omega
        have hq : 128 ≤ a.toNat := by omega
        rw [hm] at hG
        have hms := wmul_step (w := w) (i := i) (n := a.toNat) hlt
        have h8 : i ≤ 8 := by omega
        simp [hi, hi', ha, vcLoose, h128, hq, fit_mod, hms, wmul_next h8, h8]
        refine ⟨fun e1 => by omega, fun e1 => by exfalso; omega, fun e1 e2 => ⟨⟨by omega, by omega⟩, _, by push_cast; rfl, hG, hn⟩⟩
  · simp [unvV, hG, unv]
theorem known_r08_Unvar : Known Tryz.prog 127 cUnvar := known_V1 (fun b h => det_r08_Unvar b h) fun b h => closed_unvV b
end Go.Proofs.YtnckibgcjgeekaaGreat.Sx
/- Numbers with a sign as numbers without (package pack, reference 08); rows of bytes held against each other. No conditions: a kit of our own. -/
namespace Go.Proofs.YtnckibgcjgeekaaGreat.Sx
open Go Go.RowKit
set_option linter.unusedVariables false
set_option linter.unusedSimpArgs false

/-- What an int may be. -/
def isI64 (n : Int) : Prop := -9223372036854775808 ≤ n ∧ n ≤ 9223372036854775807
def zig (n : Int) : BitVec 64 := BitVec.ofNat 64 (if 0 ≤ n then 2 * n else -2 * n - 1).toNat
def unzig (w : BitVec 64) : Int := if w.toNat % 2 = 0 then (w.toNat / 2 : Nat) else -((w.toNat / 2 : Nat) : Int) - 1
theorem wrap_i64 (n : Int) (h : isI64 n) : IntKind.i64.wrap n = n := by
  obtain ⟨h1, h2⟩ := h
  simp only [IntKind.wrap, IntKind.signed, IntKind.bits]
  simp
  omega
theorem zig_toNat {n : Int} (h : isI64 n) : ((zig n).toNat : Int) = if 0 ≤ n then 2 * n else -2 * n - 1 := by
  obtain ⟨h1, h2⟩ := h
  unfold zig
  rw [BitVec.toNat_ofNat]
  split <;> omega
theorem xor_ones {x : Nat} (h : x < 18446744073709551616) : x ^^^ 18446744073709551615 = 18446744073709551615 - x := by
  have h1 : (BitVec.ofNat 64 x ^^^ BitVec.allOnes 64) = ~~~ (BitVec.ofNat 64 x) := by
    rw [BitVec.xor_comm, ← BitVec.not_def]
  have h2 := congrArg BitVec.toNat h1
  rw [BitVec.toNat_xor, BitVec.toNat_not, BitVec.toNat_allOnes, BitVec.toNat_ofNat, Nat.mod_eq_of_lt h] at h2
  simpa using h2
theorem det_Zig (n : Int) (hn : isI64 n) : Det Tryz.prog 61 [en n] [] (en (zig n)) [] := by
  refine det_finF mixed0 knows_nil ok_pack_Zig 1 (by simp) ?_
  simp [ic_pack_Zig, rs_pack_Zig]
  have e64 : IntKind.u64.bits = 64 := rfl
  have e64' : IntKind.i64.bits = 64 := rfl
  rw [e64, e64', zig_toNat hn]
  obtain ⟨h1, h2⟩ := hn
  simp only [wrap_u64]
  by_cases h : 0 ≤ n
  · have hq : n.fdiv (2 ^ min 63 64) = 0 := by
      rw [Int.fdiv_eq_ediv_of_nonneg _ (by decide)]
      exact Int.ediv_eq_zero_of_lt h (by simp; omega)
    rw [hq]
    simp [h]
    omega
  · have hq : n.fdiv (2 ^ min 63 64) = -1 := by
      rw [Int.fdiv_eq_ediv_of_nonneg _ (by decide)]
      simp
      omega
    rw [hq]
    have e1 : (((-1 : Int) % 18446744073709551616) % 2 ^ 64).toNat = 18446744073709551615 := by decide
    rw [e1, xor_ones (by omega)]
    simp [h]
    omega
theorem det_r08_Zig (n : Int) (hn : isI64 n) : Det Tryz.prog 65 [en n] [] (en (zig n)) [] := by
  refine det_finF mixed0 knows_nil ok_r08_Zig 1 (by simp) ?_
  simp [ic_r08_Zig, rs_r08_Zig]
  rw [zig_toNat hn]
  obtain ⟨h1, h2⟩ := hn
  simp only [wrap_u64]
  refine ⟨fun h => ?_, fun h => ⟨by omega, by omega, ?_⟩⟩
  · simp [h]; omega
  · have h' : ¬ (0 ≤ n) := by omega
    simp [h']; omega
theorem det_Unzig (w : BitVec 64) : Det Tryz.prog 124 [en w] [] (en (unzig w)) [] := by
  refine det_finF mixed0 knows_nil ok_pack_Unzig 1 (by simp) ?_
  simp [ic_pack_Unzig, rs_pack_Unzig]
  have e64 : IntKind.u64.bits = 64 := rfl
  have e64' : IntKind.i64.bits = 64 := rfl
  have hw := w.isLt
  have ea : w.toNat % 2 ^ 64 &&& 1 % 2 ^ 64 = w.toNat % 2 := by
    have := Nat.and_two_pow_sub_one_eq_mod (w.toNat % 2 ^ 64) 1
    simp at this ⊢
  have hq : (w.toNat : Int).fdiv (2 ^ min 1 64) = ((w.toNat / 2 : Nat) : Int) := by
    rw [Int.fdiv_eq_ediv_of_nonneg _ (by decide)]; simp
  have e1 : IntKind.u64.wrap ((w.toNat % 2 : Nat) : Int) = ((w.toNat % 2 : Nat) : Int) := by rw [wrap_u64]; omega
  have e2 : IntKind.i64.wrap ((w.toNat % 2 : Nat) : Int) = ((w.toNat % 2 : Nat) : Int) := wrap_i64 _ (by unfold isI64; omega)
  have e3 : IntKind.i64.wrap ((w.toNat / 2 : Nat) : Int) = ((w.toNat / 2 : Nat) : Int) := wrap_i64 _ (by unfold isI64; omega)
  rw [e64, e64', ea, hq, e1, e2, e3]
  refine ⟨by omega, ?_⟩
  unfold unzig
  have e4 : (((w.toNat / 2 : Nat) : Int) % 2 ^ 64).toNat = w.toNat / 2 := by omega
  rw [e4]
  by_cases h : w.toNat % 2 = 0
  · rw [h, if_pos rfl]
    simp
    rw [show (w.toNat : Int) / 2 = ((w.toNat / 2 : Nat) : Int) from rfl]
    exact e3
  · have h1 : w.toNat % 2 = 1 := by omega
    rw [h1, if_neg (by decide)]
    have e5 : (-((1 : Nat) : Int) % 2 ^ 64).toNat = 18446744073709551615 := by decide
    rw [e5, xor_ones (by omega)]
    simp only [IntKind.wrap, IntKind.signed, IntKind.bits]
    simp
    omega
theorem det_r08_Unzig (w : BitVec 64) : Det Tryz.prog 128 [en w] [] (en (unzig w)) [] := by
  refine det_finF mixed0 knows_nil ok_r08_Unzig 1 (by simp) ?_
  simp [ic_r08_Unzig, rs_r08_Unzig]
  have hw := w.isLt
  have hr : (w.toNat : Int).tmod 2 = ((w.toNat % 2 : Nat) : Int) := by rw [Int.tmod_eq_emod_of_nonneg (by omega)]; rfl
  have e3 : IntKind.i64.wrap ((w.toNat : Int) / 2) = ((w.toNat / 2 : Nat) : Int) := wrap_i64 _ (by unfold isI64; omega)
  rw [hr, e3, fits_u64]
  unfold unzig
  refine ⟨fun h => ⟨by omega, ?_⟩, fun h => ⟨by omega, by omega, by omega, ?_⟩⟩
  · rw [if_pos (by omega)]
  · rw [if_neg (by omega)]
theorem strB (x : List (BitVec 8)) : (strOfNums (x.map ((fun y => numOfCell y) ∘ Cel.c))).toList = x.map fun b => UInt8.ofNat b.toNat := by
  unfold strOfNums
  rw [ByteArray.toList_mk]
  simp [List.map_map, Function.comp_def, numOfCell]
theorem u8_inj {x y : List (BitVec 8)} : (x.map fun b => UInt8.ofNat b.toNat) = (y.map fun b => UInt8.ofNat b.toNat) ↔ x = y := by
  refine ⟨fun h => ?_, fun h => by rw [h]⟩
  have := congrArg (List.map UInt8.toBitVec) h
  simp only [List.map_map] at this
  have hid : (UInt8.toBitVec ∘ fun b : BitVec 8 => UInt8.ofNat b.toNat) = id := by
    funext b; simp
  rw [hid, List.map_id, List.map_id] at this
  exact this
theorem det_SameB (x y : List (BitVec 8)) : Det Tryz.prog 11 [en x, en y] [] (.bool (decide (x = y))) [] := by
  refine det_finF mixed0 knows_nil ok_r08_Same 1 (by simp) ?_
  simp [ic_r08_Same, rs_r08_Same]
  rw [strB, strB, Bool.eq_iff_iff, beq_iff_eq, decide_eq_true_iff]
  exact u8_inj
def cZig : Ctr := C1 (fun n : Int => isI64 n) fun n => en (zig n)
theorem flat_u64 (n : BitVec 64) : Flat (en n) := flat_int _ _
theorem flat_i64 (n : Int) : Flat (en n) := flat_int _ _
theorem known_Zig : Known Tryz.prog 61 cZig := known_C1 (fun n h => det_Zig n h) fun n => flat_u64 _
theorem known_r08_Zig : Known Tryz.prog 65 cZig := known_C1 (fun n h => det_r08_Zig n h) fun n => flat_u64 _
def cUnzig : Ctr := C1 (fun w : BitVec 64 => True) fun w => en (unzig w)
theorem known_Unzig : Known Tryz.prog 124 cUnzig := known_C1 (fun w h => det_Unzig w) fun w => flat_i64 _
theorem known_r08_Unzig : Known Tryz.prog 128 cUnzig := known_C1 (fun w h => det_r08_Unzig w) fun w => flat_i64 _
def cSameB : Ctr := C2 (fun x y : List (BitVec 8) => True) fun x y => .bool (decide (x = y))
theorem known_SameB : Known Tryz.prog 11 cSameB := known_C2 (fun x y h => det_SameB x y) fun x y => flat_bool _
end Go.Proofs.YtnckibgcjgeekaaGreat.Sx
