/- The document's answers that TaskAsks asks for (02, 07, 12, 22). No conditions: a kit of our own. -/
import Derived.Test.YtfjidignjjaihaaFnTa1
import Derived.Test.YtfjidignjjaihaaFnP2
import Derived.Test.YtfjidignjjaihaaTy15
namespace Go.Proofs.Ytfjidignjjaihaa.Sx
open Go Go.RowKit
set_option linter.unusedVariables false
set_option linter.unusedSimpArgs false

theorem det_r22_Want (r : Rul) (x : Spec) (hl : r.Aisles.length ≤ 1000) : Det Try.prog 19 [en r, en x] [] (en (crossL r.Aisles x.From x.To 0)) [] := by
  refine det_finF mixed0 (knows_cons known_r07_Cross knows_nil) ok_r22_Want 2 (by simp) ?_
  simp [ic_r22_Want, rs_r22_Want, hl]
theorem known_r22_Want : Known Try.prog 19 (V2 (fun (r : Rul) (x : Spec) => r.Aisles.length ≤ 1000) fun r x => en (crossL r.Aisles x.From x.To 0)) := known_V2 (fun r x h => det_r22_Want r x h) fun r x h => closed_en _
/-! ### rules that are alike -/
theorem det_r07_Same (xs ys : List Ais) (hl : xs.length ≤ 9223372036854775807) : Det Try.prog 84 [en xs, en ys] [] (.bool (decide (xs = ys))) [] := by
  refine det_finF mixed0 knows_nil ok_r07_Same 1 (by simp) ?_
  simp [ic_r07_Same, rs_r07_Same]
  refine ⟨fun h e => h (by rw [e]), fun hlen => ?_⟩
  refine LoopC.scanB Ais.zero xs (fun i (_ : Unit) => ⟨[(0, .view (xs.map Cel.c)), (1, .view (ys.map Cel.c)), (5, .int .i64 i)], []⟩) (fun i _ r => xs = ys ↔ r = ys.drop i) () (by simp) (by simp) (by simp) (fun i a r b hi ha hd hG => ?_) fun b hG => ?_
  · have hi' : i < ys.length := by omega
    have hy := drop_nth Ais.zero hi'
    rw [hy] at hG
    by_cases e : a = nth ys i Ais.zero
    · simp [hi, hi', ha, vcLoose, e]
      refine ⟨by omega, ?_⟩
      rw [hG, e]; simp
    · have e3 : ¬ xs = ys := fun h => by rw [hG] at h; simp at h; exact e h.1
      simp [hi, hi', ha, vcLoose, e3]
      rw [ext_Ais, ext_Pt, ext_Pt] at e
      grind
  · simp
    rw [hG, List.drop_of_length_le (by omega)]
theorem known_r07_Same : Known Try.prog 84 cEqAis := known_C2 (fun l n h => det_r07_Same l n h) fun l n => flat_bool _
theorem det_r22_SameRules (a b : Rul) (hl : a.Aisles.length ≤ 9223372036854775807) : Det Try.prog 25 [en a, en b] [] (.bool (decide (a = b))) [] := by
  refine det_finF mixed0 (knows_cons known_r07_Same knows_nil) ok_r22_SameRules 1 (by simp) ?_
  simp [ic_r22_SameRules, rs_r22_SameRules, cEqAis, hl, vcLoose, heapsOf]
  rw [Bool.eq_iff_iff]
  simp [ext_Rul, and_assoc]
theorem known_r22_SameRules : Known Try.prog 25 cSameRules := known_C2 (fun a b h => det_r22_SameRules a b h) fun a b => flat_bool _
/-! ### skills -/
def bitW (w : BitVec 64) (n : Int) : Bool := decide (0 ≤ n) && decide (n < 64) && w.getLsbD n.toNat
theorem det_r12_Is (w : BitVec 64) (n : Int) : Det Try.prog 147 [en w, en n] [] (.bool (bitW w n)) [] := by
  refine det_finF mixed0 knows_nil ok_r12_Is 1 (by simp) ?_
  simp [ic_r12_Is, rs_r12_Is]
  refine ⟨fun h => ?_, fun h1 h2 => ?_⟩
  · simp [bitW]; omega
  refine LoopC.gen (fun i : Nat => ⟨[(0, .int .u64 (w.toNat / 2 ^ i : Nat)), (1, .int .i64 n), (5, .int .i64 i)], []⟩) (fun i => (i : Int) ≤ n) (fun i => n.toNat - i) 0 (by simp) (by simp) (by simpa using h1) (fun i hi => ?_)
  have hb : w.toNat / 2 ^ i < 18446744073709551616 := Nat.lt_of_le_of_lt (Nat.div_le_self _ _) w.isLt
  by_cases hlt : (i : Int) < n
  · have e : w.toNat / 2 ^ (i + 1) = w.toNat / 2 ^ i / 2 := by rw [Nat.pow_succ, Nat.div_div_eq_div_mul]
    generalize w.toNat / 2 ^ i = v at *
    simp [hlt, e]
    have e2 : ((v / 2 : Nat) : Int) = ((w.toNat / 2 ^ (i + 1) : Nat) : Int) := by rw [e]
    have e3 : ((v / 2 : Nat) : Int) = (v : Int) / 2 := by omega
    refine ⟨by simp [fits, IntKind.wrap, IntKind.signed, IntKind.bits]; omega, by omega, i + 1, ⟨?_, by simp⟩, by omega, by omega⟩
    rw [← e3, e2]; simp
  · have hie : n = i := by omega
    subst hie
    have hbit : bitW w i = decide (w.toNat / 2 ^ i % 2 = 1) := by
      simp [bitW, BitVec.getLsbD, Nat.testBit_eq_decide_div_mod_eq]
      omega
    rw [hbit]
    generalize w.toNat / 2 ^ i = v at *
    simp
    rw [Int.tmod_eq_emod_of_nonneg (by omega)]; omega
def cBitW : Ctr := C2 (fun (w : BitVec 64) (n : Int) => True) fun w n => .bool (bitW w n)
theorem known_r12_Is : Known Try.prog 147 cBitW := known_C2 (fun w n _ => det_r12_Is w n) fun w n => flat_bool _
theorem hasW_bits (a b : BitVec 64) : hasW a b = true ↔ ∀ n : Nat, n < 64 → bitW b n = true → bitW a n = true := by
  rw [hasW, decide_eq_true_eq]
  constructor
  · intro h n hn hb
    have := congrArg (fun x => x.getLsbD n) h
    simp [hn] at this
    simp [bitW, hn] at hb ⊢
    exact this hb
  · intro h
    apply BitVec.eq_of_getLsbD_eq
    intro i hi
    have := h i hi
    simp [bitW, hi] at this
    simp [hi]
    exact this
attribute [local irreducible] bitW in
theorem det_r12_Has (a b : BitVec 64) : Det Try.prog 79 [en a, en b] [] (.bool (hasW a b)) [] := by
  refine det_finF mixed0 (knows_cons known_r12_Is knows_nil) ok_r12_Has 1 (by simp) ?_
  simp [ic_r12_Has, rs_r12_Has]
  refine LoopC.gen (fun i : Nat => ⟨[(0, .int .u64 a.toNat), (1, .int .u64 b.toNat), (5, .int .i64 i)], []⟩) (fun i => i ≤ 64 ∧ ∀ n : Nat, n < i → bitW b n = true → bitW a n = true) (fun i => 64 - i) 0 (by simp) (by simp) (by simp) (fun i ⟨hi, hG⟩ => ?_)
  by_cases hlt : i < 64
  · have hlt' : (i : Int) < 64 := by omega
    cases hb : bitW b i
    · simp [hlt, hlt', cBitW, hb, vcLoose]
      refine ⟨by omega, i + 1, by simp, ⟨by omega, fun n hn h => ?_⟩, by omega⟩
      by_cases hn' : n < i
      · exact hG n hn' h
      · have : n = i := by omega
        subst this
        rw [hb] at h; cases h
    · cases ha : bitW a i
      · have : hasW a b = false := by
          cases h : hasW a b
          · rfl
          · have := hasW_bits a b |>.1 h i hlt hb
            rw [ha] at this; cases this
        simp [hlt, hlt', cBitW, ha, hb, vcLoose, this]
      · simp [hlt, hlt', cBitW, ha, hb, vcLoose]
        refine ⟨by omega, i + 1, by simp, ⟨by omega, fun n hn h => ?_⟩, by omega⟩
        by_cases hn' : n < i
        · exact hG n hn' h
        · have : n = i := by omega
          subst this
          exact ha
  · have : hasW a b = true := (hasW_bits a b).2 fun n hn hb => hG n (by omega) hb
    have hlt' : ¬ (i : Int) < 64 := by omega
    simp [hlt, hlt', this]
theorem known_r12_Has : Known Try.prog 79 cHasW := known_C2 (fun a b _ => det_r12_Has a b) fun a b => flat_bool _
theorem det_r22_Fits (x : Spec) (w u : BitVec 64) : Det Try.prog 21 [en x, en w, en u] [] (.bool (fitsX x w u)) [] := by
  refine det_finF mixed0 (knows_cons known_r12_Has knows_nil) ok_r22_Fits 1 (by simp) ?_
  simp [ic_r22_Fits, rs_r22_Fits, cHasW, fitsX, vcLoose, heapsOf]
theorem known_r22_Fits : Known Try.prog 21 cFitsX := known_C3 (fun x w u _ => det_r22_Fits x w u) fun x w u => flat_bool _
attribute [local irreducible] crossL fitsX
set_option maxRecDepth 40000 in
set_option maxHeartbeats 4000000 in
theorem det_TaskAsks (r : Rul) (wr : Rd.wf r) (q : Rul) (wq : Rd.wf q) (x : Spec) (wx : Rd.wf x) (y : Spec) (wy : Rd.wf y) (z : W2) (wz : Rd.wf z) : Det Try.prog 5 [en r, en q, en x, en y, en z] [] (.bool true) [] := by
  refine det_finF mixed0 (knows_cons known_22alive (knows_cons known_TaskClone (knows_cons known_Want (knows_cons known_r22_Want (knows_cons known_Ints (knows_cons known_TaskFits (knows_cons known_r22_Fits (knows_cons known_TaskSame (knows_cons known_R22Same (knows_cons known_SameRules (knows_cons known_r22_SameRules knows_nil))))))))))) ok_l22_TaskAsks 1 (by simp) ?_
  simp at wr wq wx wy
  by_cases hf : x.After.length ≤ 60 ∧ y.After.length ≤ 60 ∧ r.Aisles.length ≤ 40 ∧ q.Aisles.length ≤ 40
  · obtain ⟨f1, f2, f3, f4⟩ := hf
    have g1 : ¬ (60 : Int) < (x.After.length : Int) := by omega
    have g2 : ¬ (60 : Int) < (y.After.length : Int) := by omega
    have g3 : ¬ (40 : Int) < (r.Aisles.length : Int) := by omega
    have g4 : ¬ (40 : Int) < (q.Aisles.length : Int) := by omega
    have h1 : x.After.length ≤ 1073741824 := by omega
    have h1' : x.After.length ≤ 9223372036854775807 := by omega
    have h2 : r.Aisles.length ≤ 1073741824 := by omega
    have h2' : r.Aisles.length ≤ 9223372036854775807 := by omega
    have h3 : r.Aisles.length ≤ 1000 := by omega
    have hl : (crossL r.Aisles x.From x.To 0).length ≤ 9223372036854775807 := by
      have := crossL_len r.Aisles x.From x.To 0; omega
    simp [ic_l22_TaskAsks, rs_l22_TaskAsks, c22Alive, cTaskClone, cWant, cInts, cFitsX, cR22Same, cSameRules, vcLoose, heapsOf, f1, f2, f3, f4, h1, h1', h2, h2', h3, hl]
  · simp [ic_l22_TaskAsks, rs_l22_TaskAsks, c22Alive, vcLoose, heapsOf]
    intro h1 h2 h3 h4
    exact absurd ⟨by omega, by omega, by omega, by omega⟩ hf
end Go.Proofs.Ytfjidignjjaihaa.Sx
