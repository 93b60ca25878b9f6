/- Pairs of states. No conditions: a kit of our own. -/
import Derived.Test.YtfjidignjjaihaaTy13
namespace Go.Proofs.Ytfjidignjjaihaa.Sx
open Go Go.RowKit
set_option linter.unusedVariables false
set_option linter.unusedSimpArgs false

structure Par where
  A : Stt
  B : Stt
  deriving DecidableEq
abbrev Par.P : Type := Stt × Stt × Unit
def Par.to (x : Par) : Par.P := (x.A, x.B, ())
def Par.of (y : Par.P) : Par := ⟨y.1, y.2.1⟩
instance : Cel Par := Cel.iso Par.to Par.of (fun _ => rfl) (fun _ => rfl)
instance : Rd Par := Rd.struct Par.to Par.of (fun _ => rfl) (fun _ => rfl) rfl
@[simp] theorem wf_Par (x : Par) : Rd.wf x = (Rd.wf x.A ∧ Rd.wf x.B) := by
  show (Rd.wf x.A ∧ Rd.wf x.B ∧ True) = _
  simp
def Par.zero : Par := ⟨⟨0, 0, 0, [], [], [], [], []⟩, ⟨0, 0, 0, [], [], [], [], []⟩⟩
instance : Inhabited Par := ⟨Par.zero⟩
@[simp] theorem default_Par : (default : Par) = Par.zero := rfl
@[simp] theorem c_Par (x : Par) : Cel.c x = [.int .i64 x.A.Now, .int .i64 x.A.Seq, .int .i64 x.A.Token, .view (x.A.Tasks.map Cel.c), .view (x.A.Crew.map Cel.c), .view (x.A.Units.map Cel.c), .view (x.A.Leases.map Cel.c), .view (x.A.Locks.map Cel.c), .int .i64 x.B.Now, .int .i64 x.B.Seq, .int .i64 x.B.Token, .view (x.B.Tasks.map Cel.c), .view (x.B.Crew.map Cel.c), .view (x.B.Units.map Cel.c), .view (x.B.Leases.map Cel.c), .view (x.B.Locks.map Cel.c)] := rfl
@[simp] theorem en_Par (x : Par) : en x = .agg [.int .i64 x.A.Now, .int .i64 x.A.Seq, .int .i64 x.A.Token, .view (x.A.Tasks.map Cel.c), .view (x.A.Crew.map Cel.c), .view (x.A.Units.map Cel.c), .view (x.A.Leases.map Cel.c), .view (x.A.Locks.map Cel.c), .int .i64 x.B.Now, .int .i64 x.B.Seq, .int .i64 x.B.Token, .view (x.B.Tasks.map Cel.c), .view (x.B.Crew.map Cel.c), .view (x.B.Units.map Cel.c), .view (x.B.Leases.map Cel.c), .view (x.B.Locks.map Cel.c)] := rfl
@[simp] theorem agg_Par : Cel.agg Par = true := rfl
@[simp] theorem u_Par (H : List AObj) (a0 a1 a2 a3 a4 a5 a6 a7 a8 a9 a10 a11 a12 a13 a14 a15 : AV) : Cel.u (α := Par) H [a0, a1, a2, a3, a4, a5, a6, a7, a8, a9, a10, a11, a12, a13, a14, a15] = ⟨Cel.u H [a0, a1, a2, a3, a4, a5, a6, a7], Cel.u H [a8, a9, a10, a11, a12, a13, a14, a15]⟩ := rfl
@[simp] theorem ok_Par (H : List AObj) (a0 a1 a2 a3 a4 a5 a6 a7 a8 a9 a10 a11 a12 a13 a14 a15 : AV) : Cel.ok (α := Par) H [a0, a1, a2, a3, a4, a5, a6, a7, a8, a9, a10, a11, a12, a13, a14, a15] = (Cel.ok (α := Stt) H [a0, a1, a2, a3, a4, a5, a6, a7] ∧ Cel.ok (α := Stt) H [a8, a9, a10, a11, a12, a13, a14, a15]) := by
  show (Cel.ok (α := Stt) H [a0, a1, a2, a3, a4, a5, a6, a7] ∧ Cel.ok (α := Stt) H [a8, a9, a10, a11, a12, a13, a14, a15] ∧ ([] : List AV) = []) = _
  simp
@[simp high] theorem okc_Par (H : List AObj) (x : Par) : Cel.ok (α := Par) H [.int .i64 x.A.Now, .int .i64 x.A.Seq, .int .i64 x.A.Token, .view (x.A.Tasks.map Cel.c), .view (x.A.Crew.map Cel.c), .view (x.A.Units.map Cel.c), .view (x.A.Leases.map Cel.c), .view (x.A.Locks.map Cel.c), .int .i64 x.B.Now, .int .i64 x.B.Seq, .int .i64 x.B.Token, .view (x.B.Tasks.map Cel.c), .view (x.B.Crew.map Cel.c), .view (x.B.Units.map Cel.c), .view (x.B.Leases.map Cel.c), .view (x.B.Locks.map Cel.c)] := Cel.ok_c H x
@[simp] theorem eta_Par (x : Par) : Par.mk x.A x.B = x := rfl
@[simp] theorem nth_Par (xs : List Par) (n : Nat) : nth (xs.map Cel.c) n [.int .i64 0, .int .i64 0, .int .i64 0, .view [], .view [], .view [], .view [], .view [], .int .i64 0, .int .i64 0, .int .i64 0, .view [], .view [], .view [], .view [], .view []] = Cel.c (nth xs n Par.zero) := nth_c rfl
theorem ext_Par {x y : Par} : x = y ↔ x.A = y.A ∧ x.B = y.B := by cases x; cases y; simp
end Go.Proofs.Ytfjidignjjaihaa.Sx
