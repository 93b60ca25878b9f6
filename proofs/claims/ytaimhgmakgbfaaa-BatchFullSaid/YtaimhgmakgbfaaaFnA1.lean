/- Small functions over lists of numbers and specs: what they give. No conditions: a kit of our own. -/
import Derived.Test.YtaimhgmakgbfaaaTy7
import Derived.Test.YtaimhgmakgbfaaaTy5
import Derived.Test.YtaimhgmakgbfaaaIrA
namespace Go.Proofs.Ytaimhgmakgbfaaa.Sx
open Go Go.RowKit
set_option linter.unusedVariables false
set_option linter.unusedSimpArgs false

/-- Whether a list rises. -/
def rises : List Int → Bool
  | a :: b :: l => decide (a < b) && rises (b :: l)
  | _ => true
theorem rises_cons2 (a b : Int) (l : List Int) : rises (a :: b :: l) = (decide (a < b) && rises (b :: l)) := rfl

theorem det_Ints (xs ys : List Int) (hl : xs.length ≤ 9223372036854775807) : Det Try.prog 22 [en xs, en ys] [] (.bool (decide (xs = ys))) [] := by
  refine det_finF mixed0 knows_nil ok_r01_Ints 1 (by simp) ?_
  simp [ic_r01_Ints, rs_r01_Ints]
  refine ⟨fun h e => h (by rw [e]), fun hlen => ?_⟩
  refine LoopC.scanB (0 : Int) xs (fun i (_ : Unit) => ⟨[(0, .view (xs.map Cel.c)), (1, .view (ys.map Cel.c)), (5, .int .i64 i)], []⟩) (fun i _ r => xs = ys ↔ r = ys.drop i) () (by simp) (by simp) (by simp) (fun i a r b hi ha hd hG => ?_) fun b hG => ?_
  · have hi' : i < ys.length := by omega
    have hy := drop_nth (0 : Int) hi'
    simp [hi, hi', ha]
    rw [hy] at hG
    refine ⟨fun e => ?_, fun e => ⟨by omega, ?_⟩⟩
    · rw [hG]; simp; intro e'; exact absurd e' e
    · rw [hG, e]; simp
  · simp
    rw [hG, List.drop_of_length_le (by omega)]
def cInts : Ctr := C2 (fun (xs ys : List Int) => xs.length ≤ 9223372036854775807) fun xs ys => .bool (decide (xs = ys))
theorem known_Ints : Known Try.prog 22 cInts := known_C2 (fun l n h => det_Ints l n h) fun l n => flat_bool _
theorem rises_drop {L : List Int} {j : Nat} (h : j + 1 < L.length) : rises (L.drop j) = (decide (nth L j 0 < nth L (j + 1) 0) && rises (L.drop (j + 1))) := by
  rw [drop_nth (0 : Int) (show j < L.length by omega), drop_nth (0 : Int) h]; rfl
theorem rises_drop_end {L : List Int} {j : Nat} (h : L.length ≤ j + 1) : rises (L.drop j) = true := by
  have hl : (L.drop j).length ≤ 1 := by rw [List.length_drop]; omega
  match hr : L.drop j, hl with
  | [], _ => rfl
  | [x], _ => rfl
theorem det_idset_Right (l : List Int) (hl : l.length ≤ 9223372036854775807) : Det Try.prog 113 [en l] [] (.bool (rises l)) [] := by
  refine det_finF mixed0 knows_nil ok_idset_Right 1 (by simp) ?_
  simp [ic_idset_Right, rs_idset_Right]
  refine BackC.gen (fun j : Nat => ⟨[(0, .view (l.map Cel.c)), (3, .int .i64 (j + 1 : Nat))], []⟩) (fun j => j ≤ l.length ∧ rises l = rises (l.drop j)) (fun j => l.length - j) (by simp) (by simp; exact ⟨0, by simp⟩) fun j ⟨hj, hG⟩ => ?_
  by_cases h : j + 1 < l.length
  · have hd := rises_drop h
    rw [hd] at hG
    have h1 : ¬ (l.length : Int) ≤ (j : Int) + 1 := by omega
    simp [h, h1, hG]
    and_intros <;> try omega
    · exact fun h2 => ⟨by omega, j + 1, by simp, ⟨by omega, by simp [h2]⟩, by omega⟩
  · have h1 : (l.length : Int) ≤ (j : Int) + 1 := by omega
    simp [h, h1]
    rw [hG, rises_drop_end (by omega)]
def cIdRight : Ctr := C1 (fun l : List Int => l.length ≤ 9223372036854775807) fun l => .bool (rises l)
theorem known_IdRight : Known Try.prog 113 cIdRight := known_C1 (fun l h => det_idset_Right l h) fun l => flat_bool _

def small (p : Pt) (m : Int) : Bool := decide (-m ≤ p.X) && decide (p.X ≤ m) && decide (-m ≤ p.Y) && decide (p.Y ≤ m)
def idOk (n : Int) : Bool := decide (1 ≤ n) && decide (n ≤ 999)
/-- What is wrong with a spec first. -/
def specErr (x : Spec) : Int :=
  if !(idOk x.ID && decide (0 ≤ x.Prio) && decide (x.Prio ≤ 1048575) && small x.From 1000 && small x.To 1000) then 2
  else if decide (8 < x.After.length) || !rises x.After || decide (x.ID ∈ x.After) || !x.After.all idOk then 1 else 0
theorem det_r22_Few (l : List Spec) (m : Int) (hl : l.length ≤ 9223372036854775807) : Det Try.prog 45 [en l, en m] [] (.bool (decide ((l.length : Int) ≤ m) && l.all fun x => decide (x.After.length ≤ 20))) [] := by
  refine det_finF mixed0 knows_nil ok_r22_Few 1 (by simp) ?_
  simp [ic_r22_Few, rs_r22_Few]
  refine ⟨fun h => by omega, fun h => ?_⟩
  refine LoopC.scan Spec.zero l (fun i : Nat => ⟨[(0, .view (l.map Cel.c)), (5, .int .i64 i)], []⟩) (fun r => (l.all fun x => decide (x.After.length ≤ 20)) = (r.all fun x => decide (x.After.length ≤ 20))) (by simp) (by simp) rfl (fun i a r hi ha hG => ?_) fun hG => ?_
  · simp at hG
    simp [hi, ha, hG, h]
    refine ⟨fun h1 h2 => by omega, fun h2 => ⟨by omega, fun _ => h2⟩⟩
  · simp at hG
    simp [h]
    exact hG
def cR22Few : Ctr := C2 (fun (l : List Spec) (m : Int) => l.length ≤ 9223372036854775807) fun l m => .bool (decide ((l.length : Int) ≤ m) && l.all fun x => decide (x.After.length ≤ 20))
theorem known_R22Few : Known Try.prog 45 cR22Few := known_C2 (fun l m h => det_r22_Few l m h) fun l m => flat_bool _
def inB (b : Bnd) : Bool := decide (b.least ≤ b.n) && decide (b.n ≤ b.most)
theorem det_task_all (l : List Bnd) (hl : l.length ≤ 9223372036854775807) : Det Try.prog 103 [en l] [] (.bool (l.all inB)) [] := by
  refine det_finF mixed0 knows_nil ok_task_all 1 (by simp) ?_
  simp [ic_task_all, rs_task_all]
  refine BackC.scan Bnd.zero l (fun i : Nat => ⟨[(0, .view (l.map Cel.c)), (3, .int .i64 i)], []⟩) (fun r => l.all inB = r.all inB) (by simp) rfl (by simp) (fun i a r hi ha hG => ?_) fun hG => ?_
  · have : ¬ i = l.length := by omega
    simp [hi, ha, hG, this, vcLoose]
    refine ⟨fun h1 h2 => ?_, fun h1 h2 => ⟨by omega, ?_⟩⟩
    · have : inB a = false := by simp [inB]; omega
      rw [this] at h2
      cases h2
    · have : inB a = true := by simp [inB]; omega
      exact fun _ => this
  · simp [hG]
def cTaskAll : Ctr := C1 (fun l : List Bnd => l.length ≤ 9223372036854775807) fun l => .bool (l.all inB)
theorem known_TaskAll : Known Try.prog 103 cTaskAll := known_C1 (fun l h => det_task_all l h) fun l => flat_bool _
theorem det_task_id (n : Int) : Det Try.prog 154 [en n] [] (en (Bnd.mk n 1 999)) [] := by
  refine det_finF mixed0 knows_nil ok_task_id 1 (by simp) ?_
  simp [ic_task_id, rs_task_id]
def cTaskId : Ctr := V1 (fun n : Int => True) fun n => en (Bnd.mk n 1 999)
theorem known_TaskId : Known Try.prog 154 cTaskId := known_V1 (fun n h => det_task_id n) fun n h => closed_en _
theorem det_task_wide (n : Int) : Det Try.prog 155 [en n] [] (en (Bnd.mk n (-1000) 1000)) [] := by
  refine det_finF mixed0 knows_nil ok_task_wide 1 (by simp) ?_
  simp [ic_task_wide, rs_task_wide]
def cTaskWide : Ctr := V1 (fun n : Int => True) fun n => en (Bnd.mk n (-1000) 1000)
theorem known_TaskWide : Known Try.prog 155 cTaskWide := known_V1 (fun n h => det_task_wide n) fun n h => closed_en _

theorem det_Index (l : List Int) (n : Int) (hl : l.length ≤ 9223372036854775807) : Det Try.prog 146 [en l, en n] [] (.int .i64 (if n ∈ l then (l.idxOf n : Int) else -1)) [] := by
  refine det_finF mixed0 knows_nil ok_slices_Index_int_int 1 (by simp) ?_
  simp [ic_slices_Index_int_int, rs_slices_Index_int_int]
  refine LoopC.scanB (0 : Int) l (fun i (_ : Unit) => ⟨[(0, .view (l.map Cel.c)), (1, .int .i64 n), (7, .int .i64 l.length), (8, .int .i64 i)], []⟩) (fun i _ r => (n ∈ l ↔ n ∈ r) ∧ (n ∈ r → l.idxOf n = i + r.idxOf n)) () (by simp) (by simp) (by simp) (fun i a r b hi ha hd hG => ?_) fun b hG => ?_
  · obtain ⟨h1, h2⟩ := hG
    simp [hi, ha]
    refine ⟨fun e => ?_, fun e => ⟨by omega, ?_, fun hr => ?_⟩⟩
    · subst e
      rw [if_pos (h1.2 (by simp)), h2 (by simp)]
      simp
    · rw [h1]; simp [e]
    · rw [h2 (by simp [hr]), List.idxOf_cons]
      have : (a == n) = false := by simpa using Ne.symm e
      simp [this]; omega
  · simp [hG.1]
def cIndex : Ctr := C2 (fun (l : List Int) (n : Int) => l.length ≤ 9223372036854775807) fun l n => .int .i64 (if n ∈ l then (l.idxOf n : Int) else -1)
theorem known_Index : Known Try.prog 146 cIndex := known_C2 (fun l n h => det_Index l n h) fun l n => flat_int _ _
theorem det_Contains (l : List Int) (n : Int) (hl : l.length ≤ 9223372036854775807) : Det Try.prog 82 [en l, en n] [] (.bool (decide (n ∈ l))) [] := by
  refine det_finF mixed0 (knows_cons known_Index knows_nil) ok_slices_Contains_int_int 1 (by simp) ?_
  simp [ic_slices_Contains_int_int, rs_slices_Contains_int_int, cIndex, hl]
  split <;> simp_all
def cContains : Ctr := C2 (fun (l : List Int) (n : Int) => l.length ≤ 9223372036854775807) fun l n => .bool (decide (n ∈ l))
theorem known_Contains : Known Try.prog 82 cContains := known_C2 (fun l n h => det_Contains l n h) fun l n => flat_bool _
theorem det_idset_Has (l : List Int) (n : Int) (hl : l.length ≤ 9223372036854775807) : Det Try.prog 149 [en l, en n] [] (.bool (decide (n ∈ l))) [] := by
  refine det_finF mixed0 (knows_cons known_Contains knows_nil) ok_idset_Has 1 (by simp) ?_
  simp [ic_idset_Has, rs_idset_Has, cContains, hl]
theorem known_IdHas : Known Try.prog 149 cContains := known_C2 (fun l n h => det_idset_Has l n h) fun l n => flat_bool _
theorem det_task_Check (x : Spec) (hx : x.After.length ≤ 1073741824) : Det Try.prog 93 [en x] [] (.int .i64 (specErr x)) [] := by
  refine det_finF mixed0 (knows_cons known_TaskId (knows_cons known_TaskWide (knows_cons known_TaskAll (knows_cons known_IdRight (knows_cons known_IdHas knows_nil))))) ok_task_Check 1 (by simp) ?_
  have hx' : x.After.length ≤ 9223372036854775807 := by omega
  simp [ic_task_Check, rs_task_Check, cTaskId, cTaskWide, cTaskAll, cIdRight, cContains, hx', vcLoose]
  have e1 : (inB ⟨x.ID, 1, 999⟩ && inB ⟨x.Prio, 0, 1048575⟩ && inB ⟨x.From.X, -1000, 1000⟩ && inB ⟨x.From.Y, -1000, 1000⟩ && inB ⟨x.To.X, -1000, 1000⟩ && inB ⟨x.To.Y, -1000, 1000⟩) = (idOk x.ID && decide (0 ≤ x.Prio) && decide (x.Prio ≤ 1048575) && small x.From 1000 && small x.To 1000) := by
    simp [inB, idOk, small, Bool.and_assoc]
  refine ⟨fun h => by grind [specErr], fun h1 h2 h3 h4 h5 h6 => ?_⟩
  have he : specErr x = if decide (8 < x.After.length) || !rises x.After || decide (x.ID ∈ x.After) || !x.After.all idOk then 1 else 0 := by grind [specErr]
  rw [he]
  refine LoopC.scanR (0 : Int) x.After (fun i (b : List Bnd) => ⟨[(1, .ptr 0 0 0), (3, bs 1 (b.map Cel.c)), (32, .view (x.After.map Cel.c)), (33, .int .i64 x.After.length), (34, .int .i64 i)], [.rows 9 [Cel.c x], bob 3 (b.map Cel.c)]⟩)
    (fun i b r => b.length = i ∧ x.After.all idOk = (b.all inB && r.all idOk)) [] [0, 1] (by simp [atR]) (by simp) (fun i a r b hi ha hd ⟨hb, hG⟩ => ?_) fun b ⟨hb, hG⟩ => ?_
  · simp [hi, ha]
    refine ⟨by omega, by omega, b ++ [⟨a, 1, 999⟩], ⟨[0, 2], by simp [atR]⟩, by simp [hb], ?_⟩
    simp [hG, inB, idOk, Bool.and_assoc]
  · have hb' : b.length ≤ 9223372036854775807 := by omega
    simp [hx', hb']
    grind
def cTaskCheck : Ctr := C1 (fun x : Spec => x.After.length ≤ 1073741824) fun x => .int .i64 (specErr x)
theorem known_TaskCheck : Known Try.prog 93 cTaskCheck := known_C1 (fun x h => det_task_Check x h) fun x => flat_int _ _
end Go.Proofs.Ytaimhgmakgbfaaa.Sx
