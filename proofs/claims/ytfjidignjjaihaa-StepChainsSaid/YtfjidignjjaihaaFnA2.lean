/- Commands, by their checks: what the functions give. No conditions: a kit of our own. -/
import Derived.Test.YtfjidignjjaihaaFnA1
namespace Go.Proofs.Ytfjidignjjaihaa.Sx
open Go Go.RowKit
set_option linter.unusedVariables false
set_option linter.unusedSimpArgs false

def cCmdSame : Ctr := C2 (fun c d : Cmd => c.Batch.length ≤ 9223372036854775807 ∧ ∀ x ∈ c.Batch, x.After.length ≤ 9223372036854775807) fun c d => .bool (decide (c = d))
def shapeOf (k : Int) : Shp × Bool :=
  if k = 1 then (⟨0, 0#64, true⟩, true) else if k = 3 ∨ k = 4 then (⟨999, 18446744073709551615#64, false⟩, true)
  else if k = 2 ∨ k = 5 ∨ k = 6 ∨ k = 7 ∨ k = 8 ∨ k = 12 then (⟨999, 0#64, false⟩, true) else if k = 9 ∨ k = 10 then (⟨2147483647, 0#64, false⟩, true)
  else if k = 13 then (⟨999, 1#64, false⟩, true) else if k = 11 ∨ k = 14 ∨ k = 15 then (⟨0, 0#64, false⟩, true) else (⟨0, 0#64, false⟩, false)
def cShapes : Ctr := V1 (fun k : Int => True) fun k => .tup [en (shapeOf k).1, en (shapeOf k).2]
theorem closed_tup' {l : List AV} (h : ∀ a ∈ l, Closed a) : Closed (.tup l) := .tup rfl fun i a b h1 h2 => by rw [h1] at h2; cases h2; exact h a (List.mem_of_getElem? h1)
/-- What is wrong with a batch's specs first. -/
def batchErr : List Spec → Int
  | [] => 0
  | x :: l => if specErr x = 0 then batchErr l else specErr x
/-- What is wrong with a command first. -/
def cmdErr (c : Cmd) : Int :=
  if (shapeOf c.Kind).2 = false then 14
  else if ((shapeOf c.Kind).1.most = 0 ∧ c.ID ≠ 0) ∨ ((shapeOf c.Kind).1.bits = 0#64 ∧ c.Bits ≠ 0#64) ∨ ((shapeOf c.Kind).1.batch = false ∧ 0 < c.Batch.length) then 3
  else if (0 < (shapeOf c.Kind).1.most ∧ (c.ID < 1 ∨ (shapeOf c.Kind).1.most < c.ID)) ∨ (shapeOf c.Kind).1.bits.toNat < c.Bits.toNat then 2
  else if (shapeOf c.Kind).1.batch = true ∧ c.Batch.length = 0 then 1
  else if 64 < c.Batch.length then 15
  else batchErr c.Batch
def cCmdCheck : Ctr := C1 (fun c : Cmd => c.Batch.length ≤ 1073741824 ∧ ∀ x ∈ c.Batch, x.After.length ≤ 1073741824) fun c => .int .i64 (cmdErr c)
def hasID (k : Int) : Bool := decide (k = 2) || (decide (3 ≤ k) && decide (k ≤ 10)) || decide (k = 12) || decide (k = 13)
def hasBits (k : Int) : Bool := decide (k = 3) || decide (k = 4) || decide (k = 13)
def cHasID : Ctr := C1 (fun k : Int => True) fun k => .bool (hasID k)
def cHasBits : Ctr := C1 (fun k : Int => True) fun k => .bool (hasBits k)
/-- The reference's words for the same. -/
theorem cmdErr_ref (c : Cmd) : cmdErr c =
    if c.Kind < 1 ∨ 15 < c.Kind then 14
    else if (hasID c.Kind = false ∧ c.ID ≠ 0) ∨ (hasBits c.Kind = false ∧ c.Bits ≠ 0#64) ∨ (c.Kind ≠ 1 ∧ 0 < c.Batch.length) then 3
    else if (hasID c.Kind = true ∧ (c.ID < 1 ∨ (if c.Kind = 9 ∨ c.Kind = 10 then 2147483647 else 999) < c.ID)) ∨ (c.Kind = 13 ∧ 1 < c.Bits.toNat) then 2
    else if c.Kind ≠ 1 then 0 else if c.Batch.length = 0 then 1 else if 64 < c.Batch.length then 15 else batchErr c.Batch := by
  have hb : c.Bits.toNat < 18446744073709551616 := c.Bits.isLt
  have hb0 : c.Bits.toNat = 0 ↔ c.Bits = 0#64 := by rw [← BitVec.toNat_inj]; rfl
  have hn : c.Batch.length = 0 ↔ c.Batch = [] := List.length_eq_zero_iff
  unfold cmdErr
  by_cases h : c.Kind < 1 ∨ 15 < c.Kind
  · rw [if_pos h, if_pos]
    simp only [shapeOf]
    repeat' split
    all_goals first | rfl | omega
  · rw [if_neg h]
    have hk : c.Kind = 1 ∨ c.Kind = 2 ∨ c.Kind = 3 ∨ c.Kind = 4 ∨ c.Kind = 5 ∨ c.Kind = 6 ∨ c.Kind = 7 ∨ c.Kind = 8 ∨ c.Kind = 9 ∨ c.Kind = 10 ∨ c.Kind = 11 ∨ c.Kind = 12 ∨ c.Kind = 13 ∨ c.Kind = 14 ∨ c.Kind = 15 := by omega
    have hbe : c.Batch = [] → batchErr c.Batch = 0 := fun e => by rw [e]; rfl
    rcases hk with hk | hk | hk | hk | hk | hk | hk | hk | hk | hk | hk | hk | hk | hk | hk <;> simp [hk, shapeOf, hasID, hasBits] <;> grind

theorem batchErr_small : ∀ {l : List Spec}, batchErr l = 0 ↔ ∀ x ∈ l, specErr x = 0
  | [] => by simp [batchErr]
  | x :: l => by
    simp only [batchErr, List.mem_cons, forall_eq_or_imp]
    split
    · rename_i h; rw [batchErr_small (l := l)]; simp [h]
    · rename_i h; simp [h]
def fewSpecs (l : List Spec) : Bool := decide ((l.length : Int) ≤ 70) && l.all fun x => decide (x.After.length ≤ 20)
def cR28Few : Ctr := C2 (fun (l : List Cmd) (m : Int) => l.length ≤ 9223372036854775807 ∧ ∀ c ∈ l, c.Batch.length ≤ 9223372036854775807) fun l m => .bool (decide ((l.length : Int) ≤ m) && l.all fun c => fewSpecs c.Batch)
end Go.Proofs.Ytfjidignjjaihaa.Sx
