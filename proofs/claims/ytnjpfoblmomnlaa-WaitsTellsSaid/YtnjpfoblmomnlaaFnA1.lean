/- Small functions over lists of numbers and specs: what they give. No conditions: a kit of our own. -/
import Derived.Test.YtnjpfoblmomnlaaTy7
import Derived.Test.YtnjpfoblmomnlaaTy5
import Derived.Test.YtnjpfoblmomnlaaIrA
namespace Go.Proofs.Ytnjpfoblmomnlaa.Sx
open Go Go.RowKit
set_option linter.unusedVariables false
set_option linter.unusedSimpArgs false
set_option maxHeartbeats 8000000

/-- Whether a list rises. -/
def rises : List Int → Bool
  | a :: b :: l => decide (a < b) && rises (b :: l)
  | _ => true
theorem rises_cons2 (a b : Int) (l : List Int) : rises (a :: b :: l) = (decide (a < b) && rises (b :: l)) := rfl

theorem det_In (l : List Int) (n : Int) (hl : l.length ≤ 9223372036854775807) : Det Try.prog 52 [en l, en n] [] (.bool (decide (n ∈ l))) [] := by
  refine det_finF mixed0 knows_nil ok_r16_In 1 (by simp) ?_
  simp [ic_r16_In, rs_r16_In]
  refine LoopC.scan (0 : Int) l (fun i : Nat => ⟨[(0, .view (l.map Cel.c)), (1, .int .i64 n), (5, .int .i64 i)], []⟩) (fun r => n ∈ l ↔ n ∈ r) (by simp) (by simp) Iff.rfl (fun i a r hi ha hG => ?_) fun hG => ?_
  · simp [hi, ha]
    refine ⟨fun e => ?_, fun e => ⟨by omega, ?_⟩⟩
    · rw [hG, e]; simp
    · rw [hG]; simp [Ne.symm e]
  · simpa using hG
def cIn : Ctr := C2 (fun (l : List Int) (n : Int) => l.length ≤ 9223372036854775807) fun l n => .bool (decide (n ∈ l))
theorem known_In : Known Try.prog 52 cIn := known_C2 (fun l n h => det_In l n h) fun l n => flat_bool _

theorem det_Ints (xs ys : List Int) (hl : xs.length ≤ 9223372036854775807) : Det Try.prog 31 [en xs, en ys] [] (.bool (decide (xs = ys))) [] := by
  refine det_finF mixed0 knows_nil ok_r01_Ints 1 (by simp) ?_
  simp [ic_r01_Ints, rs_r01_Ints]
  refine ⟨fun h e => h (by rw [e]), fun hlen => ?_⟩
  refine LoopC.scanB (0 : Int) xs (fun i (_ : Unit) => ⟨[(0, .view (xs.map Cel.c)), (1, .view (ys.map Cel.c)), (5, .int .i64 i)], []⟩) (fun i _ r => xs = ys ↔ r = ys.drop i) () (by simp) (by simp) (by simp) (fun i a r b hi ha hd hG => ?_) fun b hG => ?_
  · have hi' : i < ys.length := by omega
    have hy := drop_nth (0 : Int) hi'
    simp [hi, hi', ha]
    rw [hy] at hG
    refine ⟨fun e => ?_, fun e => ⟨by omega, ?_⟩⟩
    · rw [hG]; simp; intro e'; exact absurd e' e
    · rw [hG, e]; simp
  · simp
    rw [hG, List.drop_of_length_le (by omega)]
def cInts : Ctr := C2 (fun (xs ys : List Int) => xs.length ≤ 9223372036854775807) fun xs ys => .bool (decide (xs = ys))
theorem known_Ints : Known Try.prog 31 cInts := known_C2 (fun l n h => det_Ints l n h) fun l n => flat_bool _
theorem rises_drop {L : List Int} {j : Nat} (h : j + 1 < L.length) : rises (L.drop j) = (decide (nth L j 0 < nth L (j + 1) 0) && rises (L.drop (j + 1))) := by
  rw [drop_nth (0 : Int) (show j < L.length by omega), drop_nth (0 : Int) h]; rfl
theorem rises_drop_end {L : List Int} {j : Nat} (h : L.length ≤ j + 1) : rises (L.drop j) = true := by
  have hl : (L.drop j).length ≤ 1 := by rw [List.length_drop]; omega
  match hr : L.drop j, hl with
  | [], _ => rfl
  | [x], _ => rfl
theorem det_r17_Right (l : List Int) (hl : l.length ≤ 9223372036854775807) : Det Try.prog 126 [en l] [] (.bool (rises l)) [] := by
  refine det_finF mixed0 knows_nil ok_r17_Right 1 (by simp) ?_
  simp [ic_r17_Right, rs_r17_Right]
  refine LoopC.gen (fun j : Nat => ⟨[(0, .view (l.map Cel.c)), (3, .int .i64 (j + 1 : Nat))], []⟩) (fun j => j ≤ l.length ∧ rises l = rises (l.drop j)) (fun j => l.length - j) 0 (by simp) (by simp) (by simp) fun j ⟨hj, hG⟩ => ?_
  by_cases h : j + 1 < l.length
  · have hd := rises_drop h
    rw [hd] at hG
    have h1 : (j : Int) + 1 < l.length := by omega
    simp [h, h1, hG]
    and_intros <;> try omega
    · exact fun h2 => ⟨by omega, j + 1, by simp, ⟨by omega, by simp [h2]⟩, by omega⟩
  · have h1 : ¬ (j : Int) + 1 < l.length := by omega
    simp [h, h1]
    rw [hG, rises_drop_end (by omega)]
def cR17Right : Ctr := C1 (fun l : List Int => l.length ≤ 9223372036854775807) fun l => .bool (rises l)
theorem known_R17Right : Known Try.prog 126 cR17Right := known_C1 (fun l h => det_r17_Right l h) fun l => flat_bool _

theorem det_idset_Right (l : List Int) (hl : l.length ≤ 9223372036854775807) : Det Try.prog 127 [en l] [] (.bool (rises l)) [] := by
  refine det_finF mixed0 knows_nil ok_idset_Right 1 (by simp) ?_
  simp [ic_idset_Right, rs_idset_Right]
  refine BackC.gen (fun j : Nat => ⟨[(0, .view (l.map Cel.c)), (3, .int .i64 (j + 1 : Nat))], []⟩) (fun j => j ≤ l.length ∧ rises l = rises (l.drop j)) (fun j => l.length - j) (by simp) (by simp; exact ⟨0, by simp⟩) fun j ⟨hj, hG⟩ => ?_
  by_cases h : j + 1 < l.length
  · have hd := rises_drop h
    rw [hd] at hG
    have h1 : ¬ (l.length : Int) ≤ (j : Int) + 1 := by omega
    simp [h, h1, hG]
    and_intros <;> try omega
    · exact fun h2 => ⟨by omega, j + 1, by simp, ⟨by omega, by simp [h2]⟩, by omega⟩
  · have h1 : (l.length : Int) ≤ (j : Int) + 1 := by omega
    simp [h, h1]
    rw [hG, rises_drop_end (by omega)]
def cIdRight : Ctr := C1 (fun l : List Int => l.length ≤ 9223372036854775807) fun l => .bool (rises l)
theorem known_IdRight : Known Try.prog 127 cIdRight := known_C1 (fun l h => det_idset_Right l h) fun l => flat_bool _

def small (p : Pt) (m : Int) : Bool := decide (-m ≤ p.X) && decide (p.X ≤ m) && decide (-m ≤ p.Y) && decide (p.Y ≤ m)
theorem det_Index (l : List Int) (n : Int) (hl : l.length ≤ 9223372036854775807) : Det Try.prog 212 [en l, en n] [] (.int .i64 (if n ∈ l then (l.idxOf n : Int) else -1)) [] := by
  refine det_finF mixed0 knows_nil ok_slices_Index_int_int 1 (by simp) ?_
  simp [ic_slices_Index_int_int, rs_slices_Index_int_int]
  refine LoopC.scanB (0 : Int) l (fun i (_ : Unit) => ⟨[(0, .view (l.map Cel.c)), (1, .int .i64 n), (7, .int .i64 l.length), (8, .int .i64 i)], []⟩) (fun i _ r => (n ∈ l ↔ n ∈ r) ∧ (n ∈ r → l.idxOf n = i + r.idxOf n)) () (by simp) (by simp) (by simp) (fun i a r b hi ha hd hG => ?_) fun b hG => ?_
  · obtain ⟨h1, h2⟩ := hG
    simp [hi, ha]
    refine ⟨fun e => ?_, fun e => ⟨by omega, ?_, fun hr => ?_⟩⟩
    · subst e
      rw [if_pos (h1.2 (by simp)), h2 (by simp)]
      simp
    · rw [h1]; simp [e]
    · rw [h2 (by simp [hr]), List.idxOf_cons]
      have : (a == n) = false := by simpa using Ne.symm e
      simp [this]; omega
  · simp [hG.1]
def cIndex : Ctr := C2 (fun (l : List Int) (n : Int) => l.length ≤ 9223372036854775807) fun l n => .int .i64 (if n ∈ l then (l.idxOf n : Int) else -1)
theorem known_Index : Known Try.prog 212 cIndex := known_C2 (fun l n h => det_Index l n h) fun l n => flat_int _ _
theorem det_Contains (l : List Int) (n : Int) (hl : l.length ≤ 9223372036854775807) : Det Try.prog 124 [en l, en n] [] (.bool (decide (n ∈ l))) [] := by
  refine det_finF mixed0 (knows_cons known_Index knows_nil) ok_slices_Contains_int_int 1 (by simp) ?_
  simp [ic_slices_Contains_int_int, rs_slices_Contains_int_int, cIndex, hl]
  split <;> simp_all
def cContains : Ctr := C2 (fun (l : List Int) (n : Int) => l.length ≤ 9223372036854775807) fun l n => .bool (decide (n ∈ l))
theorem known_Contains : Known Try.prog 124 cContains := known_C2 (fun l n h => det_Contains l n h) fun l n => flat_bool _
theorem det_idset_Has (l : List Int) (n : Int) (hl : l.length ≤ 9223372036854775807) : Det Try.prog 203 [en l, en n] [] (.bool (decide (n ∈ l))) [] := by
  refine det_finF mixed0 (knows_cons known_Contains knows_nil) ok_idset_Has 1 (by simp) ?_
  simp [ic_idset_Has, rs_idset_Has, cContains, hl]
theorem known_IdHas : Known Try.prog 203 cContains := known_C2 (fun l n h => det_idset_Has l n h) fun l n => flat_bool _
end Go.Proofs.Ytnjpfoblmomnlaa.Sx
