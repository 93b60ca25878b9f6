/- Methods on one object of one's own ('M'): what they do to it, and what they give. No conditions: a kit of our own. -/
import Derived.Test.YtnjpfoblmomnlaaTy7
namespace Go.Proofs.Ytnjpfoblmomnlaa.Sx
open Go Go.RowKit
set_option linter.unusedVariables false
set_option linter.unusedSimpArgs false

/-- The end of a method: the object comes to y, the result's memory freezes. -/
def finM {σ : Type} [Cel σ] (d : Nat) (rs : List IRes) (x : AV) (y : σ) : Exit → AS → Prop
  | .normal, s | .ret, s => resp s rs ∧ frpK 1 d s.hp (one (resv s rs)) ∧ frz d s.hp (one (resv s rs)) = x ∧ isRows s.hp 0 ∧ szOf s.hp 0 = Cel.n σ ∧ (rowsOf s.hp 0).length = 1 ∧ Cel.ok (α := σ) [] (nth (rowsOf s.hp 0) 0 []) ∧ Cel.u (α := σ) [] (nth (rowsOf s.hp 0) 0 []) = y
  | _, _ => False
attribute [simp] finM
/-- The object's row. -/
def mP (σ : Type) [Cel σ] (H : List AObj) : AV → Prop
  | .ptr id r o => (r = 0 ∧ o = 0) ∧ isRows H id ∧ szOf H id = Cel.n σ ∧ (rowsOf H id).length = 1 ∧ Cel.ok (α := σ) [] (nth (rowsOf H id) 0 [])
  | _ => False
def mV (σ : Type) [Cel σ] (H : List AObj) : AV → σ
  | .ptr id r o => Cel.u [] (nth (rowsOf H id) 0 [])
  | _ => Cel.u [] []
def mH {σ : Type} [Cel σ] (H : List AObj) (y : σ) : AV → List AObj
  | .ptr id r o => H.set id (.rows (Cel.n σ) [Cel.c y])
  | _ => H
section
variable {σ : Type} [Cel σ]
@[simp] theorem mP_ptr (H : List AObj) (id r o : Nat) : mP σ H (.ptr id r o) = ((r = 0 ∧ o = 0) ∧ isRows H id ∧ szOf H id = Cel.n σ ∧ (rowsOf H id).length = 1 ∧ Cel.ok (α := σ) [] (nth (rowsOf H id) 0 [])) := rfl
@[simp] theorem mV_ptr (H : List AObj) (id r o : Nat) : mV σ H (.ptr id r o) = Cel.u [] (nth (rowsOf H id) 0 []) := rfl
@[simp] theorem mH_ptr (H : List AObj) (y : σ) (id r o : Nat) : mH H y (.ptr id r o) = H.set id (.rows (Cel.n σ) [Cel.c y]) := rfl
end
/-- A method's contract: what it does to the object, what it gives. -/
def M0 {σ : Type} [Cel σ] (pre : σ → Prop) (S : σ → σ) (F : σ → AV) : Ctr := ⟨fun a H => match a with
  | [a] => mP σ H a ∧ pre (mV σ H a)
  | _ => False, fun a H => match a with
  | [a] => F (mV σ H a)
  | _ => .any, fun a H => match a with
  | [a] => mH H (S (mV σ H a)) a
  | _ => H⟩
@[simp] theorem M0_pre {σ : Type} [Cel σ] (pre : σ → Prop) (S : σ → σ) (F : σ → AV) (a : AV) (H : List AObj) : (M0 pre S F).pre [a] H = (mP σ H a ∧ pre (mV σ H a)) := rfl
@[simp] theorem M0_val {σ : Type} [Cel σ] (pre : σ → Prop) (S : σ → σ) (F : σ → AV) (a : AV) (H : List AObj) : (M0 pre S F).val [a] H = F (mV σ H a) := rfl
@[simp] theorem M0_hp {σ : Type} [Cel σ] (pre : σ → Prop) (S : σ → σ) (F : σ → AV) (a : AV) (H : List AObj) : (M0 pre S F).hp [a] H = mH H (S (mV σ H a)) a := rfl
def M1 {σ α1 : Type} [Cel σ] [Cel α1] (pre : σ → α1 → Prop) (S : σ → α1 → σ) (F : σ → α1 → AV) : Ctr := ⟨fun a H => match a with
  | [a, b] => (mP σ H a ∧ okA α1 [] b) ∧ pre (mV σ H a) (de α1 [] b)
  | _ => False, fun a H => match a with
  | [a, b] => F (mV σ H a) (de α1 [] b)
  | _ => .any, fun a H => match a with
  | [a, b] => mH H (S (mV σ H a) (de α1 [] b)) a
  | _ => H⟩
@[simp] theorem M1_pre {σ α1 : Type} [Cel σ] [Cel α1] (pre : σ → α1 → Prop) (S : σ → α1 → σ) (F : σ → α1 → AV) (a b : AV) (H : List AObj) : (M1 pre S F).pre [a, b] H = ((mP σ H a ∧ okA α1 [] b) ∧ pre (mV σ H a) (de α1 [] b)) := rfl
@[simp] theorem M1_val {σ α1 : Type} [Cel σ] [Cel α1] (pre : σ → α1 → Prop) (S : σ → α1 → σ) (F : σ → α1 → AV) (a b : AV) (H : List AObj) : (M1 pre S F).val [a, b] H = F (mV σ H a) (de α1 [] b) := rfl
@[simp] theorem M1_hp {σ α1 : Type} [Cel σ] [Cel α1] (pre : σ → α1 → Prop) (S : σ → α1 → σ) (F : σ → α1 → AV) (a b : AV) (H : List AObj) : (M1 pre S F).hp [a, b] H = mH H (S (mV σ H a) (de α1 [] b)) a := rfl
def M2 {σ α1 α2 : Type} [Cel σ] [Cel α1] [Cel α2] (pre : σ → α1 → α2 → Prop) (S : σ → α1 → α2 → σ) (F : σ → α1 → α2 → AV) : Ctr := ⟨fun a H => match a with
  | [a, b, c] => (mP σ H a ∧ okA α1 [] b ∧ okA α2 [] c) ∧ pre (mV σ H a) (de α1 [] b) (de α2 [] c)
  | _ => False, fun a H => match a with
  | [a, b, c] => F (mV σ H a) (de α1 [] b) (de α2 [] c)
  | _ => .any, fun a H => match a with
  | [a, b, c] => mH H (S (mV σ H a) (de α1 [] b) (de α2 [] c)) a
  | _ => H⟩
@[simp] theorem M2_pre {σ α1 α2 : Type} [Cel σ] [Cel α1] [Cel α2] (pre : σ → α1 → α2 → Prop) (S : σ → α1 → α2 → σ) (F : σ → α1 → α2 → AV) (a b c : AV) (H : List AObj) : (M2 pre S F).pre [a, b, c] H = ((mP σ H a ∧ okA α1 [] b ∧ okA α2 [] c) ∧ pre (mV σ H a) (de α1 [] b) (de α2 [] c)) := rfl
@[simp] theorem M2_val {σ α1 α2 : Type} [Cel σ] [Cel α1] [Cel α2] (pre : σ → α1 → α2 → Prop) (S : σ → α1 → α2 → σ) (F : σ → α1 → α2 → AV) (a b c : AV) (H : List AObj) : (M2 pre S F).val [a, b, c] H = F (mV σ H a) (de α1 [] b) (de α2 [] c) := rfl
@[simp] theorem M2_hp {σ α1 α2 : Type} [Cel σ] [Cel α1] [Cel α2] (pre : σ → α1 → α2 → Prop) (S : σ → α1 → α2 → σ) (F : σ → α1 → α2 → AV) (a b c : AV) (H : List AObj) : (M2 pre S F).hp [a, b, c] H = mH H (S (mV σ H a) (de α1 [] b) (de α2 [] c)) a := rfl
/-! ### a pure function that is handed one's own memory for good ('K') -/
def alld (H : List AObj) : List AObj := H.map fun _ => .dead
@[simp] theorem alld_len (H : List AObj) : (alld H).length = H.length := by simp [alld]
@[simp] theorem alld_cons (o : AObj) (H : List AObj) : alld (o :: H) = .dead :: alld H := rfl
@[simp] theorem alld_nil : alld [] = [] := rfl
/-- A contract: one's own memory is not one's own afterwards. -/
def K2 {α0 α1 : Type} [Cel α0] [Cel α1] (pre : α0 → α1 → Prop) (F : α0 → α1 → AV) : Ctr := ⟨fun a H => match a with
  | [a0, a1] => (okA α0 H a0 ∧ okA α1 H a1) ∧ pre (de α0 H a0) (de α1 H a1)
  | _ => False, fun a H => match a with
  | [a0, a1] => F (de α0 H a0) (de α1 H a1)
  | _ => .any, fun _ H => alld H⟩
@[simp] theorem K2_pre {α0 α1 : Type} [Cel α0] [Cel α1] (pre : α0 → α1 → Prop) (F : α0 → α1 → AV) (a0 a1 : AV) (H : List AObj) : (K2 pre F).pre [a0, a1] H = ((okA α0 H a0 ∧ okA α1 H a1) ∧ pre (de α0 H a0) (de α1 H a1)) := rfl
@[simp] theorem K2_val {α0 α1 : Type} [Cel α0] [Cel α1] (pre : α0 → α1 → Prop) (F : α0 → α1 → AV) (a0 a1 : AV) (H : List AObj) : (K2 pre F).val [a0, a1] H = F (de α0 H a0) (de α1 H a1) := rfl
@[simp] theorem K2_hp {α0 α1 : Type} [Cel α0] [Cel α1] (pre : α0 → α1 → Prop) (F : α0 → α1 → AV) (a : List AV) (H : List AObj) : (K2 pre F).hp a H = alld H := rfl
def K1 {α0 : Type} [Cel α0] (pre : α0 → Prop) (F : α0 → AV) : Ctr := ⟨fun a H => match a with
  | [a0] => (okA α0 H a0) ∧ pre (de α0 H a0)
  | _ => False, fun a H => match a with
  | [a0] => F (de α0 H a0)
  | _ => .any, fun _ H => alld H⟩
@[simp] theorem K1_pre {α0 : Type} [Cel α0] (pre : α0 → Prop) (F : α0 → AV) (a0 : AV) (H : List AObj) : (K1 pre F).pre [a0] H = ((okA α0 H a0) ∧ pre (de α0 H a0)) := rfl
@[simp] theorem K1_val {α0 : Type} [Cel α0] (pre : α0 → Prop) (F : α0 → AV) (a0 : AV) (H : List AObj) : (K1 pre F).val [a0] H = F (de α0 H a0) := rfl
@[simp] theorem K1_hp {α0 : Type} [Cel α0] (pre : α0 → Prop) (F : α0 → AV) (a : List AV) (H : List AObj) : (K1 pre F).hp a H = alld H := rfl
end Go.Proofs.Ytnjpfoblmomnlaa.Sx
/- What is left of bytes. No conditions: a kit of our own. -/
namespace Go.Proofs.Ytnjpfoblmomnlaa.Sx
open Go Go.RowKit
set_option linter.unusedVariables false
set_option linter.unusedSimpArgs false

structure Rdr where
  B : List (BitVec 8)
  E : Int
  deriving DecidableEq
abbrev Rdr.P : Type := (List (BitVec 8)) × Int × Unit
def Rdr.to (x : Rdr) : Rdr.P := (x.B, x.E, ())
def Rdr.of (y : Rdr.P) : Rdr := ⟨y.1, y.2.1⟩
instance : Cel Rdr := Cel.iso Rdr.to Rdr.of (fun _ => rfl) (fun _ => rfl)
instance : Rd Rdr := Rd.struct Rdr.to Rdr.of (fun _ => rfl) (fun _ => rfl) rfl
@[simp] theorem wf_Rdr (x : Rdr) : Rd.wf x = (Rd.wf x.B ∧ Rd.wf x.E) := by
  show (Rd.wf x.B ∧ Rd.wf x.E ∧ True) = _
  simp
def Rdr.zero : Rdr := ⟨[], 0⟩
instance : Inhabited Rdr := ⟨Rdr.zero⟩
@[simp] theorem default_Rdr : (default : Rdr) = Rdr.zero := rfl
@[simp] theorem c_Rdr (x : Rdr) : Cel.c x = [.view (x.B.map Cel.c), .int .i64 x.E] := rfl
@[simp] theorem en_Rdr (x : Rdr) : en x = .agg [.view (x.B.map Cel.c), .int .i64 x.E] := rfl
@[simp] theorem agg_Rdr : Cel.agg Rdr = true := rfl
@[simp] theorem u_Rdr (H : List AObj) (a0 a1 : AV) : Cel.u (α := Rdr) H [a0, a1] = ⟨Cel.u H [a0], Cel.u H [a1]⟩ := rfl
@[simp] theorem ok_Rdr (H : List AObj) (a0 a1 : AV) : Cel.ok (α := Rdr) H [a0, a1] = (Cel.ok (α := List (BitVec 8)) H [a0] ∧ Cel.ok (α := Int) H [a1]) := by
  show (Cel.ok (α := List (BitVec 8)) H [a0] ∧ Cel.ok (α := Int) H [a1] ∧ ([] : List AV) = []) = _
  simp
@[simp high] theorem okc_Rdr (H : List AObj) (x : Rdr) : Cel.ok (α := Rdr) H [.view (x.B.map Cel.c), .int .i64 x.E] := Cel.ok_c H x
@[simp] theorem eta_Rdr (x : Rdr) : Rdr.mk x.B x.E = x := rfl
@[simp] theorem nth_Rdr (xs : List Rdr) (n : Nat) : nth (xs.map Cel.c) n [.view [], .int .i64 0] = Cel.c (nth xs n Rdr.zero) := nth_c rfl
end Go.Proofs.Ytnjpfoblmomnlaa.Sx
