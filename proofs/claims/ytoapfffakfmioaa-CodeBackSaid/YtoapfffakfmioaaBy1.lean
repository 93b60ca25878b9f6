/- Numbers as bytes (package pack, reference 08): what the functions give. No conditions: a kit of our own. -/
import Derived.Test.YtoapfffakfmioaaFnA2
import Derived.Test.YtoapfffakfmioaaIrL29
namespace Go.Proofs.Ytoapfffakfmioaa.Sx
open Go Go.RowKit
set_option linter.unusedVariables false
set_option linter.unusedSimpArgs false

theorem wrap_u64 (n : Int) : IntKind.u64.wrap n = n % 18446744073709551616 := by
  simp [IntKind.wrap, IntKind.signed, IntKind.bits]
theorem wrap_u8 (n : Int) : IntKind.u8.wrap n = n % 256 := by
  simp [IntKind.wrap, IntKind.signed, IntKind.bits]
theorem fits_u64 (n : Int) : fits .u64 n ↔ 0 ≤ n ∧ n < 18446744073709551616 := by
  unfold fits; rw [wrap_u64]; constructor <;> intro h <;> omega
theorem fits_u8 (n : Int) : fits .u8 n ↔ 0 ≤ n ∧ n < 256 := by
  unfold fits; rw [wrap_u8]; constructor <;> intro h <;> omega
/-- A byte of a number. -/
def byt (n : Nat) : BitVec 8 := BitVec.ofNat 8 n
theorem byt_toNat (n : Nat) : (byt n).toNat = n % 256 := by simp [byt]
/-- A number's short form. -/
def varB (w : Nat) : List (BitVec 8) := if h : w < 128 then [byt w] else byt (w % 128 + 128) :: varB (w / 128)
termination_by w
decreasing_by omega
theorem varB_lt {w : Nat} (h : w < 128) : varB w = [byt w] := by rw [varB]; simp [h]
theorem varB_ge {w : Nat} (h : ¬ w < 128) : varB w = byt (w % 128 + 128) :: varB (w / 128) := by rw [varB]; simp [h]

theorem det_ClipB (x : AV) (H : List AObj) (h1 : lenP x H) (h2 : slc3P x H 1 (numOf (lenV x))) (h3 : isNum (lenV x)) (h4 : 0 ≤ numOf (lenV x)) : Det Try.prog 181 [x] H (slc3V x (numOf (lenV x))) H := by
  refine det_fin0 mixed0 knows_nil ok_slices_Clip_byte_byte (by simp) ?_
  simp [-isNum, -numOf, ic_slices_Clip_byte_byte, rs_slices_Clip_byte_byte, h1, h2, h3, h4]
def cClipB : Ctr := pureH (fun a H => ∃ x, a = [x] ∧ lenP x H ∧ slc3P x H 1 (numOf (lenV x)) ∧ isNum (lenV x) ∧ 0 ≤ numOf (lenV x)) fun a H => slc3V (nth a 0 .any) (numOf (lenV (nth a 0 .any)))
theorem known_ClipB : Known Try.prog 181 cClipB := by
  rintro args H ⟨x, rfl, h1, h2, h3, h4⟩
  exact det_ClipB x H h1 h2 h3 h4

theorem fdiv_nat (a b : Nat) : (a : Int).fdiv (b : Int) = ((a / b : Nat) : Int) := by
  rw [Int.fdiv_eq_ediv_of_nonneg _ (by omega)]; rfl
theorem or_128 : ∀ x : BitVec 8, (x ||| 128#8).toNat = x.toNat % 128 + 128 := by decide
theorem or_128' (v : Nat) : (((BitVec.ofInt 8 ((v : Int) % 256) ||| 128#8).toNat : Nat) : Int) % 256 = ((v : Int) % 128 + 128) % 256 := by
  rw [or_128]; simp; omega
theorem ofInt_nat (k n : Nat) : BitVec.ofInt k (n : Int) = BitVec.ofNat k n := by simp
theorem c_byt (n : Nat) : (Cel.c (byt n) : List AV) = [.int .u8 ((n % 256 : Nat) : Int)] := by simp [byt_toNat]
theorem det_behind_cv (b m : List (List AV)) (hb1 : ∀ x ∈ b, x.length = 1) (hm1 : ∀ x ∈ m, x.length = 1) (hm : m ≠ []) (hl : b.length + m.length ≤ 1073741824) (H : List AObj) : Det Try.prog 182 [.cv b, .view m] H (.sl H.length 0 (b.length + m.length)) (H ++ [.rows 1 (b ++ m)]) := by
  refine det_fin0 mixed0 (knows_cons known_ClipB knows_nil) ok_pack_behind (by simp) ?_
  simp [ic_pack_behind, rs_pack_behind, cClipB, pureH, hm, hl]
  exact ⟨hb1, hm1, hb1⟩
theorem det_behind_sl (b m : List (List AV)) (hm1 : ∀ x ∈ m, x.length = 1) (hm : m ≠ []) (hl : b.length + m.length ≤ 1073741824) (G : List AObj) (i : Nat) (hi : G[i]? = some (.rows 1 b)) : Det Try.prog 182 [.sl i 0 b.length, .view m] G (.sl G.length 0 (b.length + m.length)) (G.set i .dead ++ [.rows 1 (b ++ m)]) := by
  refine det_fin0 mixed0 (knows_cons known_ClipB knows_nil) ok_pack_behind (by simp) ?_
  simp [ic_pack_behind, rs_pack_behind, cClipB, pureH, hm, hl, hi]
  exact hm1
def behP (H : List AObj) : AV → AV → Prop
  | .cv b, .view m => (∀ x ∈ b, x.length = 1) ∧ (∀ x ∈ m, x.length = 1) ∧ m ≠ [] ∧ b.length + m.length ≤ 1073741824
  | .sl i r l, .view m => isRows H i ∧ szOf H i = 1 ∧ r = 0 ∧ l = (rowsOf H i).length ∧ (∀ x ∈ m, x.length = 1) ∧ m ≠ [] ∧ l + m.length ≤ 1073741824
  | _, _ => False
def behV (H : List AObj) : AV → AV → AV
  | .cv b, .view m => .sl H.length 0 (b.length + m.length)
  | .sl i r l, .view m => .sl H.length 0 (l + m.length)
  | _, _ => .any
def behH (H : List AObj) : AV → AV → List AObj
  | .cv b, .view m => H ++ [.rows 1 (b ++ m)]
  | .sl i r l, .view m => H.set i .dead ++ [.rows 1 (rowsOf H i ++ m)]
  | _, _ => H
@[simp] theorem behP_cv (H : List AObj) (b m : List (List AV)) : behP H (.cv b) (.view m) = ((∀ x ∈ b, x.length = 1) ∧ (∀ x ∈ m, x.length = 1) ∧ m ≠ [] ∧ b.length + m.length ≤ 1073741824) := rfl
@[simp] theorem behP_sl (H : List AObj) (i r l : Nat) (m : List (List AV)) : behP H (.sl i r l) (.view m) = (isRows H i ∧ szOf H i = 1 ∧ r = 0 ∧ l = (rowsOf H i).length ∧ (∀ x ∈ m, x.length = 1) ∧ m ≠ [] ∧ l + m.length ≤ 1073741824) := rfl
@[simp] theorem behV_cv (H : List AObj) (b m : List (List AV)) : behV H (.cv b) (.view m) = .sl H.length 0 (b.length + m.length) := rfl
@[simp] theorem behV_sl (H : List AObj) (i r l : Nat) (m : List (List AV)) : behV H (.sl i r l) (.view m) = .sl H.length 0 (l + m.length) := rfl
@[simp] theorem behH_cv (H : List AObj) (b m : List (List AV)) : behH H (.cv b) (.view m) = H ++ [.rows 1 (b ++ m)] := rfl
@[simp] theorem behH_sl (H : List AObj) (i r l : Nat) (m : List (List AV)) : behH H (.sl i r l) (.view m) = H.set i .dead ++ [.rows 1 (rowsOf H i ++ m)] := rfl
def cBehind : Ctr := ⟨fun a H => a.length = 2 ∧ behP H (nth a 0 .any) (nth a 1 .any), fun a H => behV H (nth a 0 .any) (nth a 1 .any), fun a H => behH H (nth a 0 .any) (nth a 1 .any)⟩
theorem known_Behind : Known Try.prog 182 cBehind := by
  rintro args H ⟨hl, hp⟩
  match args, hl with
  | [x, y], _ =>
    simp only [cBehind, nth_zero, nth_succ] at hp ⊢
    unfold behP at hp
    split at hp
    · obtain ⟨h1, h2, h3, h4⟩ := hp
      exact det_behind_cv _ _ h1 h2 h3 h4 H
    · rename_i i r l m
      obtain ⟨h1, h2, rfl, rfl, h5, h6, h7⟩ := hp
      obtain ⟨sz, rs, e, e1, e2⟩ := isRows_some h1
      rw [e2] at h2
      subst h2
      simp only [behV_sl, behH_sl, e1] at h7 ⊢
      exact det_behind_sl _ _ h5 h6 h7 H _ e
    · exact hp.elim
theorem det_Var (b : List (BitVec 8)) (w : BitVec 64) (hb : b.length ≤ 1000000000) : Det Try.prog 131 [en b, en w] [] (en (b ++ varB w.toNat)) [] := by
  refine det_finF mixed0 (knows_cons known_ClipB (knows_cons known_Behind knows_nil)) ok_pack_Var 1 (by simp) ?_
  simp [ic_pack_Var, rs_pack_Var, cClipB, cBehind, pureH]
  refine BackC.genR (fun a : List (BitVec 8) × Nat => ⟨[(1, .int .u64 a.2), (5, if a.1 = [] then .cv (b.map Cel.c) else .sl 0 0 (b.length + a.1.length))], [if a.1 = [] then .dead else .rows 1 ((b ++ a.1).map Cel.c)]⟩)
    (fun a => varB w.toNat = a.1 ++ varB a.2 ∧ a.2 < 2 ^ (64 - 7 * a.1.length) ∧ a.1.length ≤ 9) (fun a => a.2) ?_ fun ⟨acc, v⟩ ⟨h1, h2, h3⟩ => ?_
  · simp
    exact ⟨[], w.toNat, ⟨[0], by simp [atR]⟩, rfl, w.isLt, by simp⟩
  · simp only at h1 h2 h3
    have hq : (v : Int).fdiv (2 ^ 7) = ((v / 128 : Nat) : Int) := fdiv_nat v 128
    by_cases hv : v < 128
    · rw [varB_lt hv] at h1
      rw [h1]
      by_cases ha : acc = []
      · subst ha
        simp [hv, cBehind, cClipB, pureH, wrap_u8, byt_toNat]
        refine ⟨by omega, ?_⟩
        rintro row (⟨a, _, rfl⟩ | rfl) <;> simp
      · simp [hv, ha, cBehind, cClipB, pureH, wrap_u8, byt_toNat]
        have ht : (List.map Cel.c b ++ (List.map Cel.c acc ++ [[AV.int IntKind.u8 ((v:Int) % 256)]])).length = b.length + acc.length + 1 := by simp; omega
        rw [List.take_of_length_le (by omega)]
        refine ⟨by omega, ⟨by omega, ?_⟩, rfl⟩
        simp only [List.mem_append, List.mem_map, List.mem_singleton]
        rintro row (⟨a, _, rfl⟩ | ⟨a, _, rfl⟩ | rfl) <;> simp
    · rw [varB_ge hv] at h1
      have hw : v / 128 < 2 ^ (64 - 7 * (acc.length + 1)) := by
        have : ∀ n ≤ 9, (2:Nat) ^ (64 - 7 * n) ≤ 128 * 2 ^ (64 - 7 * (n + 1)) := by decide
        have := this acc.length h3
        omega
      have hl : acc.length ≤ 8 := by
        by_cases h9 : acc.length = 9
        · rw [h9] at h2; omega
        · omega
      have hor : (((v : Int) % 256 % 256).toNat ||| 128) % 256 = v % 128 + 128 := by
        have := or_128 (BitVec.ofNat 8 v)
        simp at this
        have e : ((v : Int) % 256 % 256).toNat = v % 256 := by omega
        rw [e]
        omega
      by_cases ha : acc = []
      · subst ha
        simp [hv, cBehind, cClipB, pureH, wrap_u8, wrap_u64, byt_toNat, IntKind.bits, hq, hor]
        refine ⟨by omega, [byt (v % 128 + 128)], v / 128, ⟨[1], ?_⟩, ⟨h1, hw, by simp⟩, by omega⟩
        simp [atR, byt_toNat]
        refine ⟨hq, ?_⟩
        exact or_128' v
      · simp [hv, ha, cBehind, cClipB, pureH, wrap_u8, wrap_u64, byt_toNat, IntKind.bits, hq, hor]
        refine ⟨by omega, acc ++ [byt (v % 128 + 128)], v / 128, ⟨[1], ?_⟩, ⟨by simpa using h1, by simpa using hw, by simp; omega⟩, by omega⟩
        simp [atR, byt_toNat]
        refine ⟨⟨hq, by omega⟩, ?_⟩
        exact or_128' v
end Go.Proofs.Ytoapfffakfmioaa.Sx
