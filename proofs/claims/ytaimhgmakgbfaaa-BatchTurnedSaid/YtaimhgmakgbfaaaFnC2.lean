/- Small functions of package state: closures that ask of numbers. No conditions: a kit of our own. -/
import Derived.Test.YtaimhgmakgbfaaaFnB1
import Derived.Test.YtaimhgmakgbfaaaIrC
import Derived.Test.YtaimhgmakgbfaaaTy13
namespace Go.Proofs.Ytaimhgmakgbfaaa.Sx
open Go Go.RowKit
set_option linter.unusedVariables false
set_option linter.unusedSimpArgs false

abbrev CFrom : Type := Clo2 168 Int Int
end Go.Proofs.Ytaimhgmakgbfaaa.Sx
/- Functions of package state, and of layers 23, 25, 26 and 30 of the document's answer, that find things. No conditions: a kit of our own. -/
namespace Go.Proofs.Ytaimhgmakgbfaaa.Sx
open Go Go.RowKit
set_option linter.unusedVariables false
set_option linter.unusedSimpArgs false

/-- Where the first is that p holds of, from i on. -/
def fidx {α : Type} (p : α → Bool) : List α → Int → Int
  | [], _ => -1
  | x :: r, i => if p x then i else fidx p r (i + 1)
abbrev CTask1 : Type := Clo1 102 Int
/-- How many tasks have a status. -/
def many (l : List Tsk) (n : Int) : Nat := l.countP fun x => decide (x.Status = n)
def fewT (l : List Tsk) : Bool := l.all fun x => decide (x.Sp.After.length ≤ 20) && decide (x.Burnt.length ≤ 40)
theorem det_r23_Few (l : List Tsk) (n : Int) (hl : l.length ≤ 9223372036854775807) : Det Try.prog 44 [en l, en n] [] (.bool (decide ((l.length : Int) ≤ n) && fewT l)) [] := by
  refine det_finF mixed0 knows_nil ok_r23_Few 1 (by simp) ?_
  simp [ic_r23_Few, rs_r23_Few]
  refine ⟨fun h h2 => absurd h2 (by omega), fun h => ?_⟩
  refine LoopC.scan Tsk.zero l (fun i : Nat => ⟨[(0, .view (l.map Cel.c)), (5, .int .i64 i)], []⟩) (fun r => fewT l = fewT r) (by simp) (by simp) rfl (fun i a r hi ha hG => ?_) fun hG => ?_
  · rw [hG]
    by_cases h1 : a.Sp.After.length ≤ 20
    · by_cases h2 : a.Burnt.length ≤ 40
      · simp [hi, ha, fewT, h1, h2]
        and_intros <;> first | omega | skip
      · simp [hi, ha, fewT, h1, h2]
    · simp [hi, ha, fewT, h1]
  · have hf : fewT l = true := hG
    simp [hf, h]
def cr23_Few : Ctr := C2 (fun (l : List Tsk) (n : Int) => l.length ≤ 9223372036854775807) fun l n => .bool (decide ((l.length : Int) ≤ n) && fewT l)
theorem known_r23_Few : Known Try.prog 44 cr23_Few := known_C2 (fun l n h => det_r23_Few l n h) fun l n => flat_bool _
end Go.Proofs.Ytaimhgmakgbfaaa.Sx
