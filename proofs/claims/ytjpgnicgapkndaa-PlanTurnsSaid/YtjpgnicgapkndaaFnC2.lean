/- Functions of package state, and of layers 23, 25, 26 and 30 of the document's answer, that find things. No conditions: a kit of our own. -/
import Derived.Test.YtjpgnicgapkndaaFnC1
import Derived.Test.YtjpgnicgapkndaaTy13
namespace Go.Proofs.Ytjpgnicgapkndaa.Sx
open Go Go.RowKit
set_option linter.unusedVariables false
set_option linter.unusedSimpArgs false

/-- Where the first is that p holds of, from i on. -/
def fidx {α : Type} (p : α → Bool) : List α → Int → Int
  | [], _ => -1
  | x :: r, i => if p x then i else fidx p r (i + 1)
theorem fidx_in {α : Type} (p : α → Bool) : ∀ (l : List α) (i : Int), 0 ≤ i → fidx p l i = -1 ∨ (i ≤ fidx p l i ∧ fidx p l i < i + l.length)
  | [], i, h => .inl rfl
  | x :: r, i, h => by
    simp only [fidx, List.length_cons]
    split
    · right; omega
    · rcases fidx_in p r (i + 1) (by omega) with h1 | h1
      · exact .inl h1
      · right; omega
/-- What stands at k, if k is in. -/
def atK {α : Type} (z : α) (l : List α) (k : Int) : α := if k < 0 then z else nth l k.toNat z
def fnd {α : Type} [Cel α] (z : α) (p : α → Bool) (l : List α) : AV := .tup [en (atK z l (fidx p l 0)), en (decide (0 ≤ fidx p l 0))]
theorem closed_fnd {α : Type} [Cel α] (z : α) (p : α → Bool) (l : List α) : Closed (fnd z p l) := closed_tupl fun a ha => by
  rcases List.mem_cons.1 ha with rfl | ha
  · exact closed_en _
  · rcases List.mem_cons.1 ha with rfl | ha
    · exact closed_en _
    · cases ha
def cTask1 : Ctr := C2 (fun (x : Tsk) (n : Bx Int) => True) fun x n => .bool (decide (x.Sp.ID = n.v))
def cstate_Task : Ctr := V2 (fun (s : Stt) (n : Int) => s.Tasks.length ≤ 9223372036854775807) fun s n => fnd Tsk.zero (fun x : Tsk => decide (x.Sp.ID = n)) s.Tasks
/-- Lists in it aren't too long. -/
def okT (x : Tsk) : Prop := x.Sp.After.length ≤ 1073741824 ∧ x.Burnt.length ≤ 1073741824
def okL (x : Lse) : Prop := x.Want.length ≤ 1073741824
def okK (x : Lck) : Prop := x.Wait.length ≤ 1073741824
def okTs (l : List Tsk) : Prop := ∀ x ∈ l, okT x
def okLs (l : List Lse) : Prop := ∀ x ∈ l, okL x
def okKs (l : List Lck) : Prop := ∀ x ∈ l, okK x
/-- How many tasks have a status. -/
def many (l : List Tsk) (n : Int) : Nat := l.countP fun x => decide (x.Status = n)
theorem many_cons (a : Tsk) (l : List Tsk) (n : Int) : many (a :: l) n = many l n + if a.Status = n then 1 else 0 := by
  simp [many, List.countP_cons]
def cMany : Ctr := C2 (fun (s : Stt) (n : Int) => s.Tasks.length ≤ 9223372036854775807) fun s n => .int .i64 (many s.Tasks n)
def cSameTask : Ctr := C2 (fun x y : Tsk => okT x) fun x y => .bool (decide (x = y))
def cSameLse : Ctr := C2 (fun x y : Lse => okL x) fun x y => .bool (decide (x = y))
def fewT (l : List Tsk) : Bool := l.all fun x => decide (x.Sp.After.length ≤ 20) && decide (x.Burnt.length ≤ 40)
def cr23_Few : Ctr := C2 (fun (l : List Tsk) (n : Int) => l.length ≤ 9223372036854775807) fun l n => .bool (decide ((l.length : Int) ≤ n) && fewT l)
end Go.Proofs.Ytjpgnicgapkndaa.Sx
