/- Slices that a loop appends to; more values. No conditions: a kit of our own. -/
import Derived.Test.YtaimhgmakgbfaaaSx20
namespace Go.Proofs.Ytaimhgmakgbfaaa.Sx
open Go Go.RowKit
set_option linter.unusedVariables false
set_option linter.unusedSimpArgs false

/-- Names that lead nowhere, ahead of objects. -/
def deads (n : Nat) (t : List AObj) : List AObj := List.replicate n .dead ++ t
theorem deads_get (n : Nat) (b : AObj) (t : List AObj) : (deads n (b :: t))[n]? = some b := by
  unfold deads
  rw [List.getElem?_append_right (by simp)]
  simp
theorem deads_getE (n : Nat) (b : AObj) (t : List AObj) (h : n < (deads n (b :: t)).length) : (deads n (b :: t))[n] = b := by
  have := deads_get n b t
  rw [List.getElem?_eq_getElem h] at this
  exact Option.some.inj this
theorem deads_set (n : Nat) (b c : AObj) (t : List AObj) : (deads n (b :: t)).set n c = deads n (c :: t) := by
  unfold deads
  rw [List.set_append_right _ _ (by simp)]
  simp
theorem deads_app (n : Nat) (t u : List AObj) : deads n t ++ u = deads n (t ++ u) := by simp [deads]
theorem deads_len (n : Nat) (t : List AObj) : (deads n t).length = n + t.length := by simp [deads]
theorem deads_dead (n : Nat) (t : List AObj) : deads n (.dead :: t) = deads (n + 1) t := by
  unfold deads
  rw [List.replicate_succ']
  simp
/-- A slice that a loop appends to, by its rows: the heap behind m objects, and the slice. -/
def junk (sz : Nat) : List (List AV) → List AObj
  | [] => []
  | r :: rs => deads rs.length [.rows sz (r :: rs)]
def bsl (m : Nat) : List (List AV) → AV
  | [] => .nils
  | r :: rs => .sl (rs.length + m) 0 (rs.length + 1)
@[simp] theorem junk_nil (sz : Nat) : junk sz [] = [] := rfl
@[simp] theorem junk_cons (sz : Nat) (r : List AV) (rs : List (List AV)) : junk sz (r :: rs) = deads rs.length [.rows sz (r :: rs)] := rfl
@[simp] theorem bsl_nil (m : Nat) : bsl m [] = .nils := rfl
@[simp] theorem bsl_cons (m : Nat) (r : List AV) (rs : List (List AV)) : bsl m (r :: rs) = .sl (rs.length + m) 0 (rs.length + 1) := rfl
@[simp] theorem deads_zero (t : List AObj) : deads 0 t = t := rfl
@[simp] theorem take_map_len {α β : Type} (f : α → β) (l : List α) : List.take l.length (l.map f) = l.map f := List.take_of_length_le (by simp)
@[simp] theorem map_same {α β : Type} (f : α → β) (l : List α) : List.map ((fun c => c) ∘ f) l = l.map f := rfl
@[simp] theorem over_nil (l : List AV) : over l 0 [] = l := by simp [over]
@[simp] theorem over_cons0 (x c : AV) (l cs : List AV) : over (x :: l) 0 (c :: cs) = c :: over l 0 cs := by simp [over]
@[simp] theorem over_succ (x : AV) (l cs : List AV) (n : Nat) : over (x :: l) (n + 1) cs = x :: over l n cs := by simp [over, Nat.add_right_comm]
/-- A list of numbers. -/
def isI (a : AV) : Prop := a = .view ((unI a).map rI)
@[simp] theorem isI_view (xs : List Int) : isI (.view (xs.map rI)) := by unfold isI; rw [unI_view]
@[simp] theorem unI_nil : unI (.view []) = [] := rfl
@[simp] theorem unI_cons (x : Int) (es : List (List AV)) : unI (.view ([.int .i64 x] :: es)) = x :: unI (.view es) := rfl
@[simp] theorem unI_consr (x : Int) (es : List (List AV)) : unI (.view (rI x :: es)) = x :: unI (.view es) := rfl
@[simp] theorem isI_nil : isI (.view []) := rfl
@[simp] theorem isI_cons (x : Int) (es : List (List AV)) : isI (.view ([.int .i64 x] :: es)) = isI (.view es) := by simp [isI, rI]
@[simp] theorem isI_consr (x : Int) (es : List (List AV)) : isI (.view (rI x :: es)) = isI (.view es) := by simp [isI]
theorem isI_eq {a : AV} (h : isI a) : a = vI (unI a) := h
@[simp] theorem rI_length (x : Int) : (rI x).length = 1 := rfl
@[simp] theorem take_map_len1 {α β : Type} (f : α → β) (l : List α) (y : β) : List.take (l.length + 1) (l.map f ++ [y]) = l.map f ++ [y] := List.take_of_length_le (by simp)
@[simp] theorem mostRows_eq : mostRows = 1073741824 := rfl
@[simp] theorem mem_rI {a : AV} {x : Int} : a ∈ rI x ↔ a = .int .i64 x := by simp [rI]
attribute [simp] deads_get deads_getE deads_set deads_app deads_len deads_dead
end Go.Proofs.Ytaimhgmakgbfaaa.Sx
