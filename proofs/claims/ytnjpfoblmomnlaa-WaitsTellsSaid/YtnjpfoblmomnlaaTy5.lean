/- Types of the packages' own. No conditions: a kit of our own. -/
import Derived.Test.YtnjpfoblmomnlaaTy4
namespace Go.Proofs.Ytnjpfoblmomnlaa.Sx
open Go Go.RowKit
set_option linter.unusedVariables false
set_option linter.unusedSimpArgs false

structure Bnd where
  n : Int
  least : Int
  most : Int
  deriving DecidableEq
abbrev Bnd.P : Type := Int × Int × Int × Unit
def Bnd.to (x : Bnd) : Bnd.P := (x.n, x.least, x.most, ())
def Bnd.of (y : Bnd.P) : Bnd := ⟨y.1, y.2.1, y.2.2.1⟩
instance : Cel Bnd := Cel.iso Bnd.to Bnd.of (fun _ => rfl) (fun _ => rfl)
instance : Rd Bnd := Rd.struct Bnd.to Bnd.of (fun _ => rfl) (fun _ => rfl) rfl
@[simp] theorem wf_Bnd (x : Bnd) : Rd.wf x = (Rd.wf x.n ∧ Rd.wf x.least ∧ Rd.wf x.most) := by
  show (Rd.wf x.n ∧ Rd.wf x.least ∧ Rd.wf x.most ∧ True) = _
  simp
def Bnd.zero : Bnd := ⟨0, 0, 0⟩
instance : Inhabited Bnd := ⟨Bnd.zero⟩
@[simp] theorem default_Bnd : (default : Bnd) = Bnd.zero := rfl
@[simp] theorem c_Bnd (x : Bnd) : Cel.c x = [.int .i64 x.n, .int .i64 x.least, .int .i64 x.most] := rfl
@[simp] theorem en_Bnd (x : Bnd) : en x = .agg [.int .i64 x.n, .int .i64 x.least, .int .i64 x.most] := rfl
@[simp] theorem agg_Bnd : Cel.agg Bnd = true := rfl
@[simp] theorem u_Bnd (H : List AObj) (a0 a1 a2 : AV) : Cel.u (α := Bnd) H [a0, a1, a2] = ⟨Cel.u H [a0], Cel.u H [a1], Cel.u H [a2]⟩ := rfl
@[simp] theorem ok_Bnd (H : List AObj) (a0 a1 a2 : AV) : Cel.ok (α := Bnd) H [a0, a1, a2] = (Cel.ok (α := Int) H [a0] ∧ Cel.ok (α := Int) H [a1] ∧ Cel.ok (α := Int) H [a2]) := by
  show (Cel.ok (α := Int) H [a0] ∧ Cel.ok (α := Int) H [a1] ∧ Cel.ok (α := Int) H [a2] ∧ ([] : List AV) = []) = _
  simp
@[simp high] theorem okc_Bnd (H : List AObj) (x : Bnd) : Cel.ok (α := Bnd) H [.int .i64 x.n, .int .i64 x.least, .int .i64 x.most] := Cel.ok_c H x
@[simp] theorem eta_Bnd (x : Bnd) : Bnd.mk x.n x.least x.most = x := rfl
@[simp] theorem nth_Bnd (xs : List Bnd) (n : Nat) : nth (xs.map Cel.c) n [.int .i64 0, .int .i64 0, .int .i64 0] = Cel.c (nth xs n Bnd.zero) := nth_c rfl
structure Shp where
  most : Int
  bits : BitVec 64
  batch : Bool
  deriving DecidableEq
abbrev Shp.P : Type := Int × (BitVec 64) × Bool × Unit
def Shp.to (x : Shp) : Shp.P := (x.most, x.bits, x.batch, ())
def Shp.of (y : Shp.P) : Shp := ⟨y.1, y.2.1, y.2.2.1⟩
instance : Cel Shp := Cel.iso Shp.to Shp.of (fun _ => rfl) (fun _ => rfl)
instance : Rd Shp := Rd.struct Shp.to Shp.of (fun _ => rfl) (fun _ => rfl) rfl
@[simp] theorem wf_Shp (x : Shp) : Rd.wf x = (Rd.wf x.most ∧ Rd.wf x.bits ∧ Rd.wf x.batch) := by
  show (Rd.wf x.most ∧ Rd.wf x.bits ∧ Rd.wf x.batch ∧ True) = _
  simp
def Shp.zero : Shp := ⟨0, 0#64, false⟩
instance : Inhabited Shp := ⟨Shp.zero⟩
@[simp] theorem default_Shp : (default : Shp) = Shp.zero := rfl
@[simp] theorem c_Shp (x : Shp) : Cel.c x = [.int .i64 x.most, .int .u64 x.bits.toNat, .bool x.batch] := rfl
@[simp] theorem en_Shp (x : Shp) : en x = .agg [.int .i64 x.most, .int .u64 x.bits.toNat, .bool x.batch] := rfl
@[simp] theorem agg_Shp : Cel.agg Shp = true := rfl
@[simp] theorem u_Shp (H : List AObj) (a0 a1 a2 : AV) : Cel.u (α := Shp) H [a0, a1, a2] = ⟨Cel.u H [a0], Cel.u H [a1], Cel.u H [a2]⟩ := rfl
@[simp] theorem ok_Shp (H : List AObj) (a0 a1 a2 : AV) : Cel.ok (α := Shp) H [a0, a1, a2] = (Cel.ok (α := Int) H [a0] ∧ Cel.ok (α := BitVec 64) H [a1] ∧ Cel.ok (α := Bool) H [a2]) := by
  show (Cel.ok (α := Int) H [a0] ∧ Cel.ok (α := BitVec 64) H [a1] ∧ Cel.ok (α := Bool) H [a2] ∧ ([] : List AV) = []) = _
  simp
@[simp high] theorem okc_Shp (H : List AObj) (x : Shp) : Cel.ok (α := Shp) H [.int .i64 x.most, .int .u64 x.bits.toNat, .bool x.batch] := Cel.ok_c H x
@[simp] theorem eta_Shp (x : Shp) : Shp.mk x.most x.bits x.batch = x := rfl
@[simp] theorem nth_Shp (xs : List Shp) (n : Nat) : nth (xs.map Cel.c) n [.int .i64 0, .int .u64 0, .bool false] = Cel.c (nth xs n Shp.zero) := nth_c rfl
structure Pln where
  id : Int
  prio : Int
  skill : BitVec 64
  gear : BitVec 64
  from_ : Pt
  to_ : Pt
  deriving DecidableEq
abbrev Pln.P : Type := Int × Int × (BitVec 64) × (BitVec 64) × Pt × Pt × Unit
def Pln.to (x : Pln) : Pln.P := (x.id, x.prio, x.skill, x.gear, x.from_, x.to_, ())
def Pln.of (y : Pln.P) : Pln := ⟨y.1, y.2.1, y.2.2.1, y.2.2.2.1, y.2.2.2.2.1, y.2.2.2.2.2.1⟩
instance : Cel Pln := Cel.iso Pln.to Pln.of (fun _ => rfl) (fun _ => rfl)
instance : Rd Pln := Rd.struct Pln.to Pln.of (fun _ => rfl) (fun _ => rfl) rfl
@[simp] theorem wf_Pln (x : Pln) : Rd.wf x = (Rd.wf x.id ∧ Rd.wf x.prio ∧ Rd.wf x.skill ∧ Rd.wf x.gear ∧ Rd.wf x.from_ ∧ Rd.wf x.to_) := by
  show (Rd.wf x.id ∧ Rd.wf x.prio ∧ Rd.wf x.skill ∧ Rd.wf x.gear ∧ Rd.wf x.from_ ∧ Rd.wf x.to_ ∧ True) = _
  simp
def Pln.zero : Pln := ⟨0, 0, 0#64, 0#64, ⟨0, 0⟩, ⟨0, 0⟩⟩
instance : Inhabited Pln := ⟨Pln.zero⟩
@[simp] theorem default_Pln : (default : Pln) = Pln.zero := rfl
@[simp] theorem c_Pln (x : Pln) : Cel.c x = [.int .i64 x.id, .int .i64 x.prio, .int .u64 x.skill.toNat, .int .u64 x.gear.toNat, .int .i64 x.from_.X, .int .i64 x.from_.Y, .int .i64 x.to_.X, .int .i64 x.to_.Y] := rfl
@[simp] theorem en_Pln (x : Pln) : en x = .agg [.int .i64 x.id, .int .i64 x.prio, .int .u64 x.skill.toNat, .int .u64 x.gear.toNat, .int .i64 x.from_.X, .int .i64 x.from_.Y, .int .i64 x.to_.X, .int .i64 x.to_.Y] := rfl
@[simp] theorem agg_Pln : Cel.agg Pln = true := rfl
@[simp] theorem u_Pln (H : List AObj) (a0 a1 a2 a3 a4 a5 a6 a7 : AV) : Cel.u (α := Pln) H [a0, a1, a2, a3, a4, a5, a6, a7] = ⟨Cel.u H [a0], Cel.u H [a1], Cel.u H [a2], Cel.u H [a3], Cel.u H [a4, a5], Cel.u H [a6, a7]⟩ := rfl
@[simp] theorem ok_Pln (H : List AObj) (a0 a1 a2 a3 a4 a5 a6 a7 : AV) : Cel.ok (α := Pln) H [a0, a1, a2, a3, a4, a5, a6, a7] = (Cel.ok (α := Int) H [a0] ∧ Cel.ok (α := Int) H [a1] ∧ Cel.ok (α := BitVec 64) H [a2] ∧ Cel.ok (α := BitVec 64) H [a3] ∧ Cel.ok (α := Pt) H [a4, a5] ∧ Cel.ok (α := Pt) H [a6, a7]) := by
  show (Cel.ok (α := Int) H [a0] ∧ Cel.ok (α := Int) H [a1] ∧ Cel.ok (α := BitVec 64) H [a2] ∧ Cel.ok (α := BitVec 64) H [a3] ∧ Cel.ok (α := Pt) H [a4, a5] ∧ Cel.ok (α := Pt) H [a6, a7] ∧ ([] : List AV) = []) = _
  simp
@[simp high] theorem okc_Pln (H : List AObj) (x : Pln) : Cel.ok (α := Pln) H [.int .i64 x.id, .int .i64 x.prio, .int .u64 x.skill.toNat, .int .u64 x.gear.toNat, .int .i64 x.from_.X, .int .i64 x.from_.Y, .int .i64 x.to_.X, .int .i64 x.to_.Y] := Cel.ok_c H x
@[simp] theorem eta_Pln (x : Pln) : Pln.mk x.id x.prio x.skill x.gear x.from_ x.to_ = x := rfl
@[simp] theorem nth_Pln (xs : List Pln) (n : Nat) : nth (xs.map Cel.c) n [.int .i64 0, .int .i64 0, .int .u64 0, .int .u64 0, .int .i64 0, .int .i64 0, .int .i64 0, .int .i64 0] = Cel.c (nth xs n Pln.zero) := nth_c rfl
end Go.Proofs.Ytnjpfoblmomnlaa.Sx
