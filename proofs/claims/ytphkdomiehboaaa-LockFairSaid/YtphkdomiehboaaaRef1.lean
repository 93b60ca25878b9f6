/- Reference functions over lists of numbers (layers 01, 02, 16, 18). No conditions: a kit of our own. -/
import Derived.Test.YtphkdomiehboaaaSx21
import Derived.Test.YtphkdomiehboaaaIr18
import Derived.Test.YtphkdomiehboaaaChecked
namespace Go.Proofs.Ytphkdomiehboaaa.Sx
open Go Go.RowKit
set_option linter.unusedVariables false
set_option linter.unusedSimpArgs false

theorem mixed' : Try.prog.follows .mixedOrders = true := by kernel_rfl
theorem nth_getElem {α : Type} {xs : List α} {n : Nat} {d : α} (h : n < xs.length) : nth xs n d = xs[n] := nth_get h
theorem mem_take_succ {x : Int} {xs : List Int} {i : Nat} (h : i < xs.length) : x ∈ xs.take (i + 1) ↔ x ∈ xs.take i ∨ x = nth xs i 0 := by
  rw [nth_get h, ← List.take_append_getElem h, List.mem_append, List.mem_singleton]

theorem det_Clip (n a b : Int) : Det Try.prog 13 [.int .i64 n, .int .i64 a, .int .i64 b] [] (.int .i64 (if n < a then a else if b < n then b else n)) [] := by
  refine det_fin0 mixed' knows_nil ok_r02_Clip (by simp) ?_
  simp [ic_r02_Clip, rs_r02_Clip]
  refine ⟨fun h h' => by omega, fun h => ⟨fun h' => ?_, fun h' => ?_⟩⟩
  · rw [if_neg (by omega), if_pos h']
  · rw [if_neg (by omega), if_neg (by omega)]

theorem det_Ints (xs ys : List Int) (hx : xs.length ≤ 140737488355328) : Det Try.prog 22 [vI xs, vI ys] [] (.bool (decide (xs = ys))) [] := by
  refine det_fin0 mixed' knows_nil ok_r01_Ints (by simp) ?_
  simp [ic_r01_Ints, rs_r01_Ints, vI]
  refine ⟨fun h => ?_, fun h => LoopC.by' (fun i : Nat => ⟨[(0, vI xs), (1, vI ys), (5, .int .i64 i)], []⟩) (fun i => i ≤ xs.length ∧ xs.take i = ys.take i) (fun i => xs.length - i) 0 ?_ fun i hi => ?_⟩
  · intro e; subst e; simp at h
  · simp [vI]
  · simp [vI, nextBy]
    obtain ⟨h1, h2⟩ := hi
    have hl : xs.length = ys.length := by omega
    refine ⟨fun hlt => ⟨hlt, by omega, fun hne e => ?_, fun he => ⟨by omega, i + 1, by omega, by omega, by omega, ?_⟩⟩, fun hge => ?_⟩
    · subst e; exact hne rfl
    · rw [nth_get hlt, nth_get (by omega)] at he
      rw [← List.take_append_getElem hlt, ← List.take_append_getElem (by omega), h2, he]
    · rw [List.take_of_length_le hge, List.take_of_length_le (by omega)] at h2
      exact h2

theorem det_In (xs : List Int) (x : Int) (hx : xs.length ≤ 140737488355328) : Det Try.prog 61 [vI xs, .int .i64 x] [] (.bool (decide (x ∈ xs))) [] := by
  refine det_fin0 mixed' knows_nil ok_r16_In (by simp) ?_
  simp [ic_r16_In, rs_r16_In, vI]
  refine LoopC.by' (fun i : Nat => ⟨[(0, vI xs), (1, .int .i64 x), (5, .int .i64 i)], []⟩) (fun i => i ≤ xs.length ∧ x ∉ xs.take i) (fun i => xs.length - i) 0 ?_ fun i hi => ?_
  · simp [vI]
  · simp [vI, nextBy]
    obtain ⟨h1, h2⟩ := hi
    refine ⟨fun hlt => ⟨hlt, fun he => ?_, fun hne => ⟨by omega, i + 1, by omega, by omega, by omega, ?_⟩⟩, fun hge => ?_⟩
    · rw [← he, nth_get hlt]; exact List.getElem_mem hlt
    · rw [mem_take_succ hlt]; rintro (h | h)
      · exact h2 h
      · exact hne h.symm
    · rwa [List.take_of_length_le hge] at h2

theorem det_r18_At (xs : List Int) (x : Int) (hx : xs.length ≤ 140737488355328) : Det Try.prog 21 [vI xs, .int .i64 x] [] (.int .i64 (if x ∈ xs then (xs.idxOf x : Int) else -1)) [] := by
  refine det_fin0 mixed' knows_nil ok_r18_At (by simp) ?_
  simp [ic_r18_At, rs_r18_At, vI]
  refine LoopC.by' (fun i : Nat => ⟨[(0, vI xs), (1, .int .i64 x), (5, .int .i64 i)], []⟩) (fun i => i ≤ xs.length ∧ x ∉ xs.take i) (fun i => xs.length - i) 0 ?_ fun i hi => ?_
  · simp [vI]
  · simp [vI, nextBy]
    obtain ⟨h1, h2⟩ := hi
    refine ⟨fun hlt => ⟨hlt, fun he => ?_, fun hne => ⟨by omega, i + 1, by omega, by omega, by omega, ?_⟩⟩, fun hge => ?_⟩
    · have hm : x ∈ xs := by rw [← he, nth_get hlt]; exact List.getElem_mem hlt
      rw [if_pos hm]
      have : xs.idxOf x = i := by
        rw [nth_get hlt] at he
        have e : xs = xs.take i ++ xs[i] :: xs.drop (i + 1) := by simp
        rw [e, List.idxOf_append, if_neg h2, he]
        simp; omega
      rw [this]
    · rw [mem_take_succ hlt]; rintro (h | h)
      · exact h2 h
      · exact hne h.symm
    · rwa [List.take_of_length_le hge] at h2

def cIn : Ctr := pureC (fun a => isI (nth a 0 .any) ∧ (unI (nth a 0 .any)).length ≤ 140737488355328 ∧ ∃ x, a = [nth a 0 .any, .int .i64 x]) (fun a => .bool (decide (numOf (nth a 1 .any) ∈ unI (nth a 0 .any))))
theorem closed_ints {a : List AV} {xs : List Int} {x : Int} (h : a = [vI xs, .int .i64 x]) : ∀ y ∈ a, Closed y := by
  subst h; intro y hy; simp at hy; rcases hy with rfl | rfl
  · exact closed_vI xs
  · exact closed_int _ _
theorem known_In : Known Try.prog 61 cIn := by
  rintro args H ⟨hi, hl, x, ha⟩
  rw [isI_eq hi] at ha
  generalize unI (nth args 0 .any) = xs at *
  subst ha
  simp only [cIn, pureC, nth_zero, nth_succ, numOf, unI_vI]
  exact (det_In xs x hl).pure (closed_ints rfl) (closed_bool _) H

theorem det_r18_Put (xs : List Int) (room x : Int) (hx : xs.length ≤ 1000000) : Det Try.prog 15 [vI xs, .int .i64 room, .int .i64 x] [] (if x ∈ xs then .tup [vI xs, .int .i64 6] else if room ≤ xs.length then .tup [vI xs, .int .i64 9] else .tup [vI (xs ++ [x]), .int .i64 0]) [] := by
  refine det_finF mixed' (knows_cons known_In knows_nil) ok_r18_Put 2 (by simp) ?_
  by_cases hm : x ∈ xs
  · simp [ic_r18_Put, rs_r18_Put, cIn, hm]; omega
  · by_cases hr : room ≤ xs.length
    · simp [ic_r18_Put, rs_r18_Put, cIn, hm, hr]; omega
    · simp [ic_r18_Put, rs_r18_Put, cIn, hm, hr]
      refine ⟨by omega, by omega, by omega, fun row hrow a ha => ?_, ?_⟩
      · rcases hrow with ⟨y, _, rfl⟩ | rfl
        · simp at ha; subst ha; simp
        · simp at ha; subst ha; simp
      · rfl
theorem det_r18_Drop (xs : List Int) (x : Int) (hx : xs.length ≤ 1000000) : Det Try.prog 18 [vI xs, .int .i64 x] [] (.tup [vI (xs.filter (· ≠ x)), .bool (decide (x ∈ xs))]) [] := by
  refine det_finF mixed' knows_nil ok_r18_Drop 2 (by simp) ?_
  simp [ic_r18_Drop, rs_r18_Drop]
  refine LoopC.by' (fun a : Nat × List Int => ⟨[(0, vI xs), (1, .int .i64 x), (6, bsl 0 (a.2.map rI)), (7, .int .i64 a.1)], junk 1 (a.2.map rI)⟩) (fun a => a.1 ≤ xs.length ∧ a.2 = (xs.take a.1).filter (· ≠ x)) (fun a => xs.length - a.1) (0, []) ?_ fun ⟨i, out⟩ ⟨hi, ho⟩ => ?_
  · simp
  · simp only at hi ho
    have hlen : out.length ≤ i := by rw [ho]; exact Nat.le_trans (List.length_filter_le _ _) (by simp; omega)
    have hnext : ∀ (hlt : i < xs.length), (xs.take (i + 1)).filter (· ≠ x) = if nth xs i 0 = x then out else out ++ [nth xs i 0] := fun hlt => by
      rw [← List.take_append_getElem hlt, List.filter_append, ← ho, nth_get hlt]
      by_cases h : xs[i] = x <;> simp [h]
    have hend : xs.length ≤ i → out = xs.filter (· ≠ x) ∧ (out.length < xs.length ↔ x ∈ xs) := fun hge => by
      rw [List.take_of_length_le hge] at ho
      refine ⟨ho, ?_⟩
      rw [ho]
      constructor
      · intro hl
        by_cases hm : x ∈ xs
        · exact hm
        · rw [List.filter_eq_self.2 (fun a ha => by simp; rintro rfl; exact hm ha)] at hl
          omega
      · intro hm
        have := List.length_filter_lt_length_iff_exists (p := fun a => decide (a ≠ x)) (l := xs)
        rw [this]
        exact ⟨x, hm, by simp⟩
    have hstep : ∀ (hlt : i < xs.length) (h : nth xs i 0 = x), (i + 1 ≤ xs.length ∧ out = (xs.take (i + 1)).filter (· ≠ x)) := fun hlt h => ⟨by omega, by rw [hnext hlt, if_pos h]⟩
    have hstep' : ∀ (hlt : i < xs.length) (h : ¬ nth xs i 0 = x), (i + 1 ≤ xs.length ∧ out ++ [nth xs i 0] = (xs.take (i + 1)).filter (· ≠ x)) := fun hlt h => ⟨by omega, by rw [hnext hlt, if_neg h]⟩
    rcases out with _ | ⟨o, out⟩
    · simp
      refine ⟨fun hlt => ⟨hlt, fun hne => ⟨hlt, by omega, (i + 1, [nth xs i 0]), by simp; omega, by simp [rI], by simpa using hstep' hlt hne⟩, fun he => ⟨by omega, (i + 1, []), by simp; omega, by simp, by simpa using hstep hlt he⟩⟩, fun hge => ?_⟩
      have h1 := (hend hge).1
      have h2 := (hend hge).2
      simp at h1 h2
      exact ⟨h1, h2⟩
    · simp
      simp at hlen
      refine ⟨fun hlt => ⟨hlt, fun hne => ⟨hlt, by omega, by omega, (i + 1, (o :: out) ++ [nth xs i 0]), by simp; omega, by simp [rI], by simpa using hstep' hlt hne⟩, fun he => ⟨by omega, (i + 1, o :: out), by simp; omega, by simp, by simpa using hstep hlt he⟩⟩, fun hge => ?_⟩
      have h1 := (hend hge).1
      have h2 := (hend hge).2
      simp at h1 h2
      exact ⟨h1, by rw [← h2]; omega⟩
/-- Contracts for callers. -/
def cClip : Ctr := pureC (fun a => ∃ x y z : Int, a = [.int .i64 x, .int .i64 y, .int .i64 z]) (fun a => .int .i64 (if numOf (nth a 0 .any) < numOf (nth a 1 .any) then numOf (nth a 1 .any) else if numOf (nth a 2 .any) < numOf (nth a 0 .any) then numOf (nth a 2 .any) else numOf (nth a 0 .any)))
theorem known_Clip : Known Try.prog 13 cClip := by
  rintro args H ⟨x, y, z, rfl⟩
  exact (det_Clip x y z).pure (by simp) (closed_int _ _) H
def cInts : Ctr := pureC (fun a => isI (nth a 0 .any) ∧ isI (nth a 1 .any) ∧ (unI (nth a 0 .any)).length ≤ 140737488355328 ∧ a = [nth a 0 .any, nth a 1 .any]) (fun a => .bool (decide (unI (nth a 0 .any) = unI (nth a 1 .any))))
theorem known_Ints : Known Try.prog 22 cInts := by
  rintro args H ⟨hi, hj, hl, ha⟩
  rw [isI_eq hi, isI_eq hj] at ha
  generalize unI (nth args 0 .any) = xs at *
  generalize unI (nth args 1 .any) = ys at *
  subst ha
  simp only [cInts, pureC, nth_zero, nth_succ, unI_vI]
  exact (det_Ints xs ys hl).pure (by simp) (closed_bool _) H
def cR18At : Ctr := pureC (fun a => isI (nth a 0 .any) ∧ (unI (nth a 0 .any)).length ≤ 140737488355328 ∧ ∃ x, a = [nth a 0 .any, .int .i64 x]) (fun a => .int .i64 (if numOf (nth a 1 .any) ∈ unI (nth a 0 .any) then ((unI (nth a 0 .any)).idxOf (numOf (nth a 1 .any)) : Int) else -1))
theorem known_R18At : Known Try.prog 21 cR18At := by
  rintro args H ⟨hi, hl, x, ha⟩
  rw [isI_eq hi] at ha
  generalize unI (nth args 0 .any) = xs at *
  subst ha
  simp only [cR18At, pureC, nth_zero, nth_succ, numOf, unI_vI]
  exact (det_r18_At xs x hl).pure (closed_ints rfl) (closed_int _ _) H
theorem closed_tup2 {a b : AV} (ha : Closed a) (hb : Closed b) : Closed (.tup [a, b]) := .tup rfl fun i x y h1 h2 => by
  rw [h1] at h2; cases h2
  have := List.mem_of_getElem? h1
  simp at this
  rcases this with rfl | rfl
  · exact ha
  · exact hb
def cR18Put : Ctr := pureC (fun a => isI (nth a 0 .any) ∧ (unI (nth a 0 .any)).length ≤ 1000000 ∧ ∃ room x, a = [nth a 0 .any, .int .i64 room, .int .i64 x])
  (fun a => if numOf (nth a 2 .any) ∈ unI (nth a 0 .any) then .tup [vI (unI (nth a 0 .any)), .int .i64 6] else if numOf (nth a 1 .any) ≤ (unI (nth a 0 .any)).length then .tup [vI (unI (nth a 0 .any)), .int .i64 9] else .tup [vI (unI (nth a 0 .any) ++ [numOf (nth a 2 .any)]), .int .i64 0])
theorem known_R18Put : Known Try.prog 15 cR18Put := by
  rintro args H ⟨hi, hl, room, x, ha⟩
  rw [isI_eq hi] at ha
  generalize unI (nth args 0 .any) = xs at *
  subst ha
  simp only [cR18Put, pureC, nth_zero, nth_succ, numOf, unI_vI]
  refine (det_r18_Put xs room x hl).pure (by simp) ?_ H
  split
  · exact closed_tup2 (closed_vI _) (closed_int _ _)
  · split
    · exact closed_tup2 (closed_vI _) (closed_int _ _)
    · exact closed_tup2 (closed_vI _) (closed_int _ _)
def cR18Drop : Ctr := pureC (fun a => isI (nth a 0 .any) ∧ (unI (nth a 0 .any)).length ≤ 1000000 ∧ ∃ x, a = [nth a 0 .any, .int .i64 x]) (fun a => .tup [vI ((unI (nth a 0 .any)).filter (· ≠ numOf (nth a 1 .any))), .bool (decide (numOf (nth a 1 .any) ∈ unI (nth a 0 .any)))])
theorem known_R18Drop : Known Try.prog 18 cR18Drop := by
  rintro args H ⟨hi, hl, x, ha⟩
  rw [isI_eq hi] at ha
  generalize unI (nth args 0 .any) = xs at *
  subst ha
  simp only [cR18Drop, pureC, nth_zero, nth_succ, numOf, unI_vI]
  exact (det_r18_Drop xs x hl).pure (closed_ints rfl) (closed_tup2 (closed_vI _) (closed_bool _)) H
end Go.Proofs.Ytphkdomiehboaaa.Sx
