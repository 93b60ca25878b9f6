/- Functions of package state, and of layers 23, 25, 26 and 30 of the document's answer, that find things. No conditions: a kit of our own. -/
import Derived.Test.YtnckibgcjgeekaaGreatFnC1
import Derived.Test.YtnckibgcjgeekaaGreatTy13
namespace Go.Proofs.YtnckibgcjgeekaaGreat.Sx
open Go Go.RowKit
set_option linter.unusedVariables false
set_option linter.unusedSimpArgs false

/-- Where the first is that p holds of, from i on. -/
def fidx {α : Type} (p : α → Bool) : List α → Int → Int
  | [], _ => -1
  | x :: r, i => if p x then i else fidx p r (i + 1)
/-- Lists in it aren't too long. -/
def okT (x : Tsk) : Prop := x.Sp.After.length ≤ 1073741824 ∧ x.Burnt.length ≤ 1073741824
def okL (x : Lse) : Prop := x.Want.length ≤ 1073741824
def okK (x : Lck) : Prop := x.Wait.length ≤ 1073741824
def okTs (l : List Tsk) : Prop := ∀ x ∈ l, okT x
def okLs (l : List Lse) : Prop := ∀ x ∈ l, okL x
def okKs (l : List Lck) : Prop := ∀ x ∈ l, okK x
/-- How many tasks have a status. -/
def many (l : List Tsk) (n : Int) : Nat := l.countP fun x => decide (x.Status = n)
theorem det_r30_SameTask (x y : Tsk) (h : okT x) : Det Tryz.prog 46 [en x, en y] [] (.bool (decide (x = y))) [] := by
  refine det_finF mixed0 (knows_cons known_R22Same (knows_cons known_Ints knows_nil)) ok_r30_SameTask 1 (by simp) ?_
  have hx : x.Sp.After.length ≤ 9223372036854775807 := by have := h.1; omega
  have hb : x.Burnt.length ≤ 9223372036854775807 := by have := h.2; omega
  simp [ic_r30_SameTask, rs_r30_SameTask, cR22Same, cInts, hx, hb]
  rw [Bool.eq_iff_iff]
  simp [ext_Tsk, ext_Spec, ext_Pt, and_assoc]
def cSameTask : Ctr := C2 (fun x y : Tsk => okT x) fun x y => .bool (decide (x = y))
theorem known_r30_SameTask : Known Tryz.prog 46 cSameTask := known_C2 (fun x y h => det_r30_SameTask x y h) fun x y => flat_bool _
theorem det_r26_Same (x y : Lse) (h : okL x) : Det Tryz.prog 79 [en x, en y] [] (.bool (decide (x = y))) [] := by
  refine det_finF mixed0 (knows_cons known_Ints knows_nil) ok_r26_Same 1 (by simp) ?_
  have hx : x.Want.length ≤ 9223372036854775807 := Nat.le_trans h (by decide)
  simp [ic_r26_Same, rs_r26_Same, cInts, hx]
  rw [Bool.eq_iff_iff]
  simp [ext_Lse, and_assoc]
def cSameLse : Ctr := C2 (fun x y : Lse => okL x) fun x y => .bool (decide (x = y))
theorem known_r26_Same : Known Tryz.prog 79 cSameLse := known_C2 (fun x y h => det_r26_Same x y h) fun x y => flat_bool _
def fewT (l : List Tsk) : Bool := l.all fun x => decide (x.Sp.After.length ≤ 20) && decide (x.Burnt.length ≤ 40)
theorem det_r23_Few (l : List Tsk) (n : Int) (hl : l.length ≤ 9223372036854775807) : Det Tryz.prog 15 [en l, en n] [] (.bool (decide ((l.length : Int) ≤ n) && fewT l)) [] := by
  refine det_finF mixed0 knows_nil ok_r23_Few 1 (by simp) ?_
  simp [ic_r23_Few, rs_r23_Few]
  refine ⟨fun h h2 => absurd h2 (by omega), fun h => ?_⟩
  refine LoopC.scan Tsk.zero l (fun i : Nat => ⟨[(0, .view (l.map Cel.c)), (5, .int .i64 i)], []⟩) (fun r => fewT l = fewT r) (by simp) (by simp) rfl (fun i a r hi ha hG => ?_) fun hG => ?_
  · rw [hG]
    by_cases h1 : a.Sp.After.length ≤ 20
    · by_cases h2 : a.Burnt.length ≤ 40
      · simp [hi, ha, fewT, h1, h2]
        and_intros <;> first | omega | skip
      · simp [hi, ha, fewT, h1, h2]
    · simp [hi, ha, fewT, h1]
  · have hf : fewT l = true := hG
    simp [hf, h]
def cr23_Few : Ctr := C2 (fun (l : List Tsk) (n : Int) => l.length ≤ 9223372036854775807) fun l n => .bool (decide ((l.length : Int) ≤ n) && fewT l)
theorem known_r23_Few : Known Tryz.prog 15 cr23_Few := known_C2 (fun l n h => det_r23_Few l n h) fun l n => flat_bool _
end Go.Proofs.YtnckibgcjgeekaaGreat.Sx
