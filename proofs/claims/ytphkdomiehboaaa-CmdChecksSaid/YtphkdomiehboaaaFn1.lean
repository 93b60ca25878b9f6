/- Small functions over lists of numbers: what they give. No conditions: a kit of our own. -/
import Derived.Test.YtphkdomiehboaaaTy6
import Derived.Test.YtphkdomiehboaaaIr28
namespace Go.Proofs.Ytphkdomiehboaaa.Sx
open Go Go.RowKit
set_option linter.unusedVariables false
set_option linter.unusedSimpArgs false

theorem natCast_le {a b : Nat} : ((a : Int) ≤ (b : Int)) ↔ a ≤ b := Int.ofNat_le
/-- Whether a list rises. -/
def rises : List Int → Bool
  | a :: b :: l => decide (a < b) && rises (b :: l)
  | _ => true
theorem rises_cons2 (a b : Int) (l : List Int) : rises (a :: b :: l) = (decide (a < b) && rises (b :: l)) := rfl

theorem det_In (l : List Int) (n : Int) (hl : l.length ≤ 9223372036854775807) : Det Try.prog 61 [en l, en n] [] (.bool (decide (n ∈ l))) [] := by
  refine det_finF mixed0 knows_nil ok_r16_In 1 (by simp) ?_
  simp [ic_r16_In, rs_r16_In]
  refine LoopC.scan (0 : Int) l (fun i : Nat => ⟨[(0, .view (l.map Cel.c)), (1, .int .i64 n), (5, .int .i64 i)], []⟩) (fun r => n ∈ l ↔ n ∈ r) (by simp) (by simp) Iff.rfl (fun i a r hi ha hG => ?_) fun hG => ?_
  · simp [hi, ha]
    refine ⟨fun e => ?_, fun e => ⟨by omega, ?_⟩⟩
    · rw [hG, e]; simp
    · rw [hG]; simp [Ne.symm e]
  · simpa using hG
def cIn : Ctr := C2 (fun (l : List Int) (n : Int) => l.length ≤ 9223372036854775807) fun l n => .bool (decide (n ∈ l))
theorem known_In : Known Try.prog 61 cIn := known_C2 (fun l n h => det_In l n h) fun l n => flat_bool _

theorem det_Ints (xs ys : List Int) (hl : xs.length ≤ 9223372036854775807) : Det Try.prog 22 [en xs, en ys] [] (.bool (decide (xs = ys))) [] := by
  refine det_finF mixed0 knows_nil ok_r01_Ints 1 (by simp) ?_
  simp [ic_r01_Ints, rs_r01_Ints]
  refine ⟨fun h e => h (by rw [e]), fun hlen => ?_⟩
  refine LoopC.scanB (0 : Int) xs (fun i (_ : Unit) => ⟨[(0, .view (xs.map Cel.c)), (1, .view (ys.map Cel.c)), (5, .int .i64 i)], []⟩) (fun i _ r => xs = ys ↔ r = ys.drop i) () (by simp) (by simp) (by simp) (fun i a r b hi ha hd hG => ?_) fun b hG => ?_
  · have hi' : i < ys.length := by omega
    have hy := drop_nth (0 : Int) hi'
    simp [hi, hi', ha]
    rw [hy] at hG
    refine ⟨fun e => ?_, fun e => ⟨by omega, ?_⟩⟩
    · rw [hG]; simp; intro e'; exact absurd e' e
    · rw [hG, e]; simp
  · simp
    rw [hG, List.drop_of_length_le (by omega)]
def cInts : Ctr := C2 (fun (xs ys : List Int) => xs.length ≤ 9223372036854775807) fun xs ys => .bool (decide (xs = ys))
theorem known_Ints : Known Try.prog 22 cInts := known_C2 (fun l n h => det_Ints l n h) fun l n => flat_bool _
end Go.Proofs.Ytphkdomiehboaaa.Sx
