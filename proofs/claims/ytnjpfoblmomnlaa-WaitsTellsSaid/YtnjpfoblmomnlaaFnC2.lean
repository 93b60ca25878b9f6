/- Small functions of package state: closures that ask of numbers. No conditions: a kit of our own. -/
import Derived.Test.YtnjpfoblmomnlaaFnB1
import Derived.Test.YtnjpfoblmomnlaaIrC
import Derived.Test.YtnjpfoblmomnlaaTy13
namespace Go.Proofs.Ytnjpfoblmomnlaa.Sx
open Go Go.RowKit
set_option linter.unusedVariables false
set_option linter.unusedSimpArgs false
set_option maxHeartbeats 8000000

theorem low_vp1 {m : Nat} (n : Int) : Low m (.vp [.int .i64 n] 0) := Closed.seen (Cel.closed (⟨n⟩ : Bx Int) _ (by simp)) _ _
abbrev CFrom : Type := Clo2 248 Int Int
end Go.Proofs.Ytnjpfoblmomnlaa.Sx
/- Functions of package state, and of layers 23, 25, 26 and 30 of the document's answer, that find things. No conditions: a kit of our own. -/
namespace Go.Proofs.Ytnjpfoblmomnlaa.Sx
open Go Go.RowKit
set_option linter.unusedVariables false
set_option linter.unusedSimpArgs false

/-- Where the first is that p holds of, from i on. -/
def fidx {α : Type} (p : α → Bool) : List α → Int → Int
  | [], _ => -1
  | x :: r, i => if p x then i else fidx p r (i + 1)
theorem fidx_in {α : Type} (p : α → Bool) : ∀ (l : List α) (i : Int), 0 ≤ i → fidx p l i = -1 ∨ (i ≤ fidx p l i ∧ fidx p l i < i + l.length)
  | [], i, h => .inl rfl
  | x :: r, i, h => by
    simp only [fidx, List.length_cons]
    split
    · right; omega
    · rcases fidx_in p r (i + 1) (by omega) with h1 | h1
      · exact .inl h1
      · right; omega
/-- What stands at k, if k is in. -/
def atK {α : Type} (z : α) (l : List α) (k : Int) : α := if k < 0 then z else nth l k.toNat z
abbrev CTask1 : Type := Clo1 164 Int
/-- How many tasks have a status. -/
def many (l : List Tsk) (n : Int) : Nat := l.countP fun x => decide (x.Status = n)
end Go.Proofs.Ytnjpfoblmomnlaa.Sx
