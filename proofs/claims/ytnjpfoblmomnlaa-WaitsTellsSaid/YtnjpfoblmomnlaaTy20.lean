/- A yard of leases and locks, as a type. No conditions: a kit of our own. -/
import Derived.Test.YtnjpfoblmomnlaaTy9
namespace Go.Proofs.Ytnjpfoblmomnlaa.Sx
open Go Go.RowKit
set_option linter.unusedVariables false
set_option linter.unusedSimpArgs false

structure Yrd where
  Ls : List Lse
  Ks : List Lck
  deriving DecidableEq
abbrev Yrd.P : Type := (List Lse) × (List Lck) × Unit
def Yrd.to (x : Yrd) : Yrd.P := (x.Ls, x.Ks, ())
def Yrd.of (y : Yrd.P) : Yrd := ⟨y.1, y.2.1⟩
instance : Cel Yrd := Cel.iso Yrd.to Yrd.of (fun _ => rfl) (fun _ => rfl)
def Yrd.zero : Yrd := ⟨[], []⟩
instance : Inhabited Yrd := ⟨Yrd.zero⟩
@[simp] theorem c_Yrd (x : Yrd) : Cel.c x = [.view (x.Ls.map Cel.c), .view (x.Ks.map Cel.c)] := rfl
@[simp] theorem en_Yrd (x : Yrd) : en x = .agg [.view (x.Ls.map Cel.c), .view (x.Ks.map Cel.c)] := rfl
@[simp] theorem agg_Yrd : Cel.agg Yrd = true := rfl
@[simp] theorem u_Yrd (H : List AObj) (a0 a1 : AV) : Cel.u (α := Yrd) H [a0, a1] = ⟨Cel.u H [a0], Cel.u H [a1]⟩ := rfl
@[simp] theorem ok_Yrd (H : List AObj) (a0 a1 : AV) : Cel.ok (α := Yrd) H [a0, a1] = (Cel.ok (α := List Lse) H [a0] ∧ Cel.ok (α := List Lck) H [a1]) := by
  show (Cel.ok (α := List Lse) H [a0] ∧ Cel.ok (α := List Lck) H [a1] ∧ ([] : List AV) = []) = _
  simp
@[simp high] theorem okc_Yrd (H : List AObj) (x : Yrd) : Cel.ok (α := Yrd) H [.view (x.Ls.map Cel.c), .view (x.Ks.map Cel.c)] := Cel.ok_c H x
@[simp] theorem eta_Yrd (x : Yrd) : Yrd.mk x.Ls x.Ks = x := rfl
end Go.Proofs.Ytnjpfoblmomnlaa.Sx
