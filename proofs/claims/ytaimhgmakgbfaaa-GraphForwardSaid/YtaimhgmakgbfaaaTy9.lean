/- What is left of bytes. No conditions: a kit of our own. -/
import Derived.Test.YtaimhgmakgbfaaaTy8
namespace Go.Proofs.Ytaimhgmakgbfaaa.Sx
open Go Go.RowKit
set_option linter.unusedVariables false
set_option linter.unusedSimpArgs false

structure Rdr where
  B : List (BitVec 8)
  E : Int
  deriving DecidableEq
abbrev Rdr.P : Type := (List (BitVec 8)) × Int × Unit
def Rdr.to (x : Rdr) : Rdr.P := (x.B, x.E, ())
def Rdr.of (y : Rdr.P) : Rdr := ⟨y.1, y.2.1⟩
instance : Cel Rdr := Cel.iso Rdr.to Rdr.of (fun _ => rfl) (fun _ => rfl)
instance : Rd Rdr := Rd.struct Rdr.to Rdr.of (fun _ => rfl) (fun _ => rfl) rfl
@[simp] theorem wf_Rdr (x : Rdr) : Rd.wf x = (Rd.wf x.B ∧ Rd.wf x.E) := by
  show (Rd.wf x.B ∧ Rd.wf x.E ∧ True) = _
  simp
def Rdr.zero : Rdr := ⟨[], 0⟩
instance : Inhabited Rdr := ⟨Rdr.zero⟩
@[simp] theorem default_Rdr : (default : Rdr) = Rdr.zero := rfl
@[simp] theorem c_Rdr (x : Rdr) : Cel.c x = [.view (x.B.map Cel.c), .int .i64 x.E] := rfl
@[simp] theorem en_Rdr (x : Rdr) : en x = .agg [.view (x.B.map Cel.c), .int .i64 x.E] := rfl
@[simp] theorem agg_Rdr : Cel.agg Rdr = true := rfl
@[simp] theorem u_Rdr (H : List AObj) (a0 a1 : AV) : Cel.u (α := Rdr) H [a0, a1] = ⟨Cel.u H [a0], Cel.u H [a1]⟩ := rfl
@[simp] theorem ok_Rdr (H : List AObj) (a0 a1 : AV) : Cel.ok (α := Rdr) H [a0, a1] = (Cel.ok (α := List (BitVec 8)) H [a0] ∧ Cel.ok (α := Int) H [a1]) := by
  show (Cel.ok (α := List (BitVec 8)) H [a0] ∧ Cel.ok (α := Int) H [a1] ∧ ([] : List AV) = []) = _
  simp
@[simp high] theorem okc_Rdr (H : List AObj) (x : Rdr) : Cel.ok (α := Rdr) H [.view (x.B.map Cel.c), .int .i64 x.E] := Cel.ok_c H x
@[simp] theorem eta_Rdr (x : Rdr) : Rdr.mk x.B x.E = x := rfl
@[simp] theorem nth_Rdr (xs : List Rdr) (n : Nat) : nth (xs.map Cel.c) n [.view [], .int .i64 0] = Cel.c (nth xs n Rdr.zero) := nth_c rfl
theorem ext_Rdr {x y : Rdr} : x = y ↔ x.B = y.B ∧ x.E = y.E := by cases x; cases y; simp
end Go.Proofs.Ytaimhgmakgbfaaa.Sx
