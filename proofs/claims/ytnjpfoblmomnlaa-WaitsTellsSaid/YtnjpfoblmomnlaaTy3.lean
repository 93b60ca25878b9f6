/- The program's types. No conditions: a kit of our own. -/
import Derived.Test.YtnjpfoblmomnlaaTy2
namespace Go.Proofs.Ytnjpfoblmomnlaa.Sx
open Go Go.RowKit
set_option linter.unusedVariables false
set_option linter.unusedSimpArgs false

structure Pt where
  X : Int
  Y : Int
  deriving DecidableEq
abbrev Pt.P : Type := Int × Int × Unit
def Pt.to (x : Pt) : Pt.P := (x.X, x.Y, ())
def Pt.of (y : Pt.P) : Pt := ⟨y.1, y.2.1⟩
instance : Cel Pt := Cel.iso Pt.to Pt.of (fun _ => rfl) (fun _ => rfl)
instance : Rd Pt := Rd.struct Pt.to Pt.of (fun _ => rfl) (fun _ => rfl) rfl
@[simp] theorem wf_Pt (x : Pt) : Rd.wf x = (Rd.wf x.X ∧ Rd.wf x.Y) := by
  show (Rd.wf x.X ∧ Rd.wf x.Y ∧ True) = _
  simp
def Pt.zero : Pt := ⟨0, 0⟩
instance : Inhabited Pt := ⟨Pt.zero⟩
@[simp] theorem default_Pt : (default : Pt) = Pt.zero := rfl
@[simp] theorem c_Pt (x : Pt) : Cel.c x = [.int .i64 x.X, .int .i64 x.Y] := rfl
@[simp] theorem en_Pt (x : Pt) : en x = .agg [.int .i64 x.X, .int .i64 x.Y] := rfl
@[simp] theorem agg_Pt : Cel.agg Pt = true := rfl
@[simp] theorem u_Pt (H : List AObj) (a0 a1 : AV) : Cel.u (α := Pt) H [a0, a1] = ⟨Cel.u H [a0], Cel.u H [a1]⟩ := rfl
@[simp] theorem ok_Pt (H : List AObj) (a0 a1 : AV) : Cel.ok (α := Pt) H [a0, a1] = (Cel.ok (α := Int) H [a0] ∧ Cel.ok (α := Int) H [a1]) := by
  show (Cel.ok (α := Int) H [a0] ∧ Cel.ok (α := Int) H [a1] ∧ ([] : List AV) = []) = _
  simp
@[simp high] theorem okc_Pt (H : List AObj) (x : Pt) : Cel.ok (α := Pt) H [.int .i64 x.X, .int .i64 x.Y] := Cel.ok_c H x
@[simp] theorem eta_Pt (x : Pt) : Pt.mk x.X x.Y = x := rfl
@[simp] theorem nth_Pt (xs : List Pt) (n : Nat) : nth (xs.map Cel.c) n [.int .i64 0, .int .i64 0] = Cel.c (nth xs n Pt.zero) := nth_c rfl
structure Mot where
  Turn : Int
  By : Pt
  deriving DecidableEq
abbrev Mot.P : Type := Int × Pt × Unit
def Mot.to (x : Mot) : Mot.P := (x.Turn, x.By, ())
def Mot.of (y : Mot.P) : Mot := ⟨y.1, y.2.1⟩
instance : Cel Mot := Cel.iso Mot.to Mot.of (fun _ => rfl) (fun _ => rfl)
instance : Rd Mot := Rd.struct Mot.to Mot.of (fun _ => rfl) (fun _ => rfl) rfl
@[simp] theorem wf_Mot (x : Mot) : Rd.wf x = (Rd.wf x.Turn ∧ Rd.wf x.By) := by
  show (Rd.wf x.Turn ∧ Rd.wf x.By ∧ True) = _
  simp
def Mot.zero : Mot := ⟨0, ⟨0, 0⟩⟩
instance : Inhabited Mot := ⟨Mot.zero⟩
@[simp] theorem default_Mot : (default : Mot) = Mot.zero := rfl
@[simp] theorem c_Mot (x : Mot) : Cel.c x = [.int .i64 x.Turn, .int .i64 x.By.X, .int .i64 x.By.Y] := rfl
@[simp] theorem en_Mot (x : Mot) : en x = .agg [.int .i64 x.Turn, .int .i64 x.By.X, .int .i64 x.By.Y] := rfl
@[simp] theorem agg_Mot : Cel.agg Mot = true := rfl
@[simp] theorem u_Mot (H : List AObj) (a0 a1 a2 : AV) : Cel.u (α := Mot) H [a0, a1, a2] = ⟨Cel.u H [a0], Cel.u H [a1, a2]⟩ := rfl
@[simp] theorem ok_Mot (H : List AObj) (a0 a1 a2 : AV) : Cel.ok (α := Mot) H [a0, a1, a2] = (Cel.ok (α := Int) H [a0] ∧ Cel.ok (α := Pt) H [a1, a2]) := by
  show (Cel.ok (α := Int) H [a0] ∧ Cel.ok (α := Pt) H [a1, a2] ∧ ([] : List AV) = []) = _
  simp
@[simp high] theorem okc_Mot (H : List AObj) (x : Mot) : Cel.ok (α := Mot) H [.int .i64 x.Turn, .int .i64 x.By.X, .int .i64 x.By.Y] := Cel.ok_c H x
@[simp] theorem eta_Mot (x : Mot) : Mot.mk x.Turn x.By = x := rfl
@[simp] theorem nth_Mot (xs : List Mot) (n : Nat) : nth (xs.map Cel.c) n [.int .i64 0, .int .i64 0, .int .i64 0] = Cel.c (nth xs n Mot.zero) := nth_c rfl
structure Ais where
  ID : Int
  Low : Pt
  High : Pt
  deriving DecidableEq
abbrev Ais.P : Type := Int × Pt × Pt × Unit
def Ais.to (x : Ais) : Ais.P := (x.ID, x.Low, x.High, ())
def Ais.of (y : Ais.P) : Ais := ⟨y.1, y.2.1, y.2.2.1⟩
instance : Cel Ais := Cel.iso Ais.to Ais.of (fun _ => rfl) (fun _ => rfl)
instance : Rd Ais := Rd.struct Ais.to Ais.of (fun _ => rfl) (fun _ => rfl) rfl
@[simp] theorem wf_Ais (x : Ais) : Rd.wf x = (Rd.wf x.ID ∧ Rd.wf x.Low ∧ Rd.wf x.High) := by
  show (Rd.wf x.ID ∧ Rd.wf x.Low ∧ Rd.wf x.High ∧ True) = _
  simp
def Ais.zero : Ais := ⟨0, ⟨0, 0⟩, ⟨0, 0⟩⟩
instance : Inhabited Ais := ⟨Ais.zero⟩
@[simp] theorem default_Ais : (default : Ais) = Ais.zero := rfl
@[simp] theorem c_Ais (x : Ais) : Cel.c x = [.int .i64 x.ID, .int .i64 x.Low.X, .int .i64 x.Low.Y, .int .i64 x.High.X, .int .i64 x.High.Y] := rfl
@[simp] theorem en_Ais (x : Ais) : en x = .agg [.int .i64 x.ID, .int .i64 x.Low.X, .int .i64 x.Low.Y, .int .i64 x.High.X, .int .i64 x.High.Y] := rfl
@[simp] theorem agg_Ais : Cel.agg Ais = true := rfl
@[simp] theorem u_Ais (H : List AObj) (a0 a1 a2 a3 a4 : AV) : Cel.u (α := Ais) H [a0, a1, a2, a3, a4] = ⟨Cel.u H [a0], Cel.u H [a1, a2], Cel.u H [a3, a4]⟩ := rfl
@[simp] theorem ok_Ais (H : List AObj) (a0 a1 a2 a3 a4 : AV) : Cel.ok (α := Ais) H [a0, a1, a2, a3, a4] = (Cel.ok (α := Int) H [a0] ∧ Cel.ok (α := Pt) H [a1, a2] ∧ Cel.ok (α := Pt) H [a3, a4]) := by
  show (Cel.ok (α := Int) H [a0] ∧ Cel.ok (α := Pt) H [a1, a2] ∧ Cel.ok (α := Pt) H [a3, a4] ∧ ([] : List AV) = []) = _
  simp
@[simp high] theorem okc_Ais (H : List AObj) (x : Ais) : Cel.ok (α := Ais) H [.int .i64 x.ID, .int .i64 x.Low.X, .int .i64 x.Low.Y, .int .i64 x.High.X, .int .i64 x.High.Y] := Cel.ok_c H x
@[simp] theorem eta_Ais (x : Ais) : Ais.mk x.ID x.Low x.High = x := rfl
@[simp] theorem nth_Ais (xs : List Ais) (n : Nat) : nth (xs.map Cel.c) n [.int .i64 0, .int .i64 0, .int .i64 0, .int .i64 0, .int .i64 0] = Cel.c (nth xs n Ais.zero) := nth_c rfl
structure Arc where
  From : Int
  To : Int
  deriving DecidableEq
abbrev Arc.P : Type := Int × Int × Unit
def Arc.to (x : Arc) : Arc.P := (x.From, x.To, ())
def Arc.of (y : Arc.P) : Arc := ⟨y.1, y.2.1⟩
instance : Cel Arc := Cel.iso Arc.to Arc.of (fun _ => rfl) (fun _ => rfl)
instance : Rd Arc := Rd.struct Arc.to Arc.of (fun _ => rfl) (fun _ => rfl) rfl
@[simp] theorem wf_Arc (x : Arc) : Rd.wf x = (Rd.wf x.From ∧ Rd.wf x.To) := by
  show (Rd.wf x.From ∧ Rd.wf x.To ∧ True) = _
  simp
def Arc.zero : Arc := ⟨0, 0⟩
instance : Inhabited Arc := ⟨Arc.zero⟩
@[simp] theorem default_Arc : (default : Arc) = Arc.zero := rfl
@[simp] theorem c_Arc (x : Arc) : Cel.c x = [.int .i64 x.From, .int .i64 x.To] := rfl
@[simp] theorem en_Arc (x : Arc) : en x = .agg [.int .i64 x.From, .int .i64 x.To] := rfl
@[simp] theorem agg_Arc : Cel.agg Arc = true := rfl
@[simp] theorem u_Arc (H : List AObj) (a0 a1 : AV) : Cel.u (α := Arc) H [a0, a1] = ⟨Cel.u H [a0], Cel.u H [a1]⟩ := rfl
@[simp] theorem ok_Arc (H : List AObj) (a0 a1 : AV) : Cel.ok (α := Arc) H [a0, a1] = (Cel.ok (α := Int) H [a0] ∧ Cel.ok (α := Int) H [a1]) := by
  show (Cel.ok (α := Int) H [a0] ∧ Cel.ok (α := Int) H [a1] ∧ ([] : List AV) = []) = _
  simp
@[simp high] theorem okc_Arc (H : List AObj) (x : Arc) : Cel.ok (α := Arc) H [.int .i64 x.From, .int .i64 x.To] := Cel.ok_c H x
@[simp] theorem eta_Arc (x : Arc) : Arc.mk x.From x.To = x := rfl
@[simp] theorem nth_Arc (xs : List Arc) (n : Nat) : nth (xs.map Cel.c) n [.int .i64 0, .int .i64 0] = Cel.c (nth xs n Arc.zero) := nth_c rfl
structure Spec where
  ID : Int
  Prio : Int
  Skill : BitVec 64
  Gear : BitVec 64
  From : Pt
  To : Pt
  After : List Int
  deriving DecidableEq
abbrev Spec.P : Type := Int × Int × (BitVec 64) × (BitVec 64) × Pt × Pt × (List Int) × Unit
def Spec.to (x : Spec) : Spec.P := (x.ID, x.Prio, x.Skill, x.Gear, x.From, x.To, x.After, ())
def Spec.of (y : Spec.P) : Spec := ⟨y.1, y.2.1, y.2.2.1, y.2.2.2.1, y.2.2.2.2.1, y.2.2.2.2.2.1, y.2.2.2.2.2.2.1⟩
instance : Cel Spec := Cel.iso Spec.to Spec.of (fun _ => rfl) (fun _ => rfl)
instance : Rd Spec := Rd.struct Spec.to Spec.of (fun _ => rfl) (fun _ => rfl) rfl
@[simp] theorem wf_Spec (x : Spec) : Rd.wf x = (Rd.wf x.ID ∧ Rd.wf x.Prio ∧ Rd.wf x.Skill ∧ Rd.wf x.Gear ∧ Rd.wf x.From ∧ Rd.wf x.To ∧ Rd.wf x.After) := by
  show (Rd.wf x.ID ∧ Rd.wf x.Prio ∧ Rd.wf x.Skill ∧ Rd.wf x.Gear ∧ Rd.wf x.From ∧ Rd.wf x.To ∧ Rd.wf x.After ∧ True) = _
  simp
def Spec.zero : Spec := ⟨0, 0, 0#64, 0#64, ⟨0, 0⟩, ⟨0, 0⟩, []⟩
instance : Inhabited Spec := ⟨Spec.zero⟩
@[simp] theorem default_Spec : (default : Spec) = Spec.zero := rfl
@[simp] theorem c_Spec (x : Spec) : Cel.c x = [.int .i64 x.ID, .int .i64 x.Prio, .int .u64 x.Skill.toNat, .int .u64 x.Gear.toNat, .int .i64 x.From.X, .int .i64 x.From.Y, .int .i64 x.To.X, .int .i64 x.To.Y, .view (x.After.map Cel.c)] := rfl
@[simp] theorem en_Spec (x : Spec) : en x = .agg [.int .i64 x.ID, .int .i64 x.Prio, .int .u64 x.Skill.toNat, .int .u64 x.Gear.toNat, .int .i64 x.From.X, .int .i64 x.From.Y, .int .i64 x.To.X, .int .i64 x.To.Y, .view (x.After.map Cel.c)] := rfl
@[simp] theorem agg_Spec : Cel.agg Spec = true := rfl
@[simp] theorem u_Spec (H : List AObj) (a0 a1 a2 a3 a4 a5 a6 a7 a8 : AV) : Cel.u (α := Spec) H [a0, a1, a2, a3, a4, a5, a6, a7, a8] = ⟨Cel.u H [a0], Cel.u H [a1], Cel.u H [a2], Cel.u H [a3], Cel.u H [a4, a5], Cel.u H [a6, a7], Cel.u H [a8]⟩ := rfl
@[simp] theorem ok_Spec (H : List AObj) (a0 a1 a2 a3 a4 a5 a6 a7 a8 : AV) : Cel.ok (α := Spec) H [a0, a1, a2, a3, a4, a5, a6, a7, a8] = (Cel.ok (α := Int) H [a0] ∧ Cel.ok (α := Int) H [a1] ∧ Cel.ok (α := BitVec 64) H [a2] ∧ Cel.ok (α := BitVec 64) H [a3] ∧ Cel.ok (α := Pt) H [a4, a5] ∧ Cel.ok (α := Pt) H [a6, a7] ∧ Cel.ok (α := List Int) H [a8]) := by
  show (Cel.ok (α := Int) H [a0] ∧ Cel.ok (α := Int) H [a1] ∧ Cel.ok (α := BitVec 64) H [a2] ∧ Cel.ok (α := BitVec 64) H [a3] ∧ Cel.ok (α := Pt) H [a4, a5] ∧ Cel.ok (α := Pt) H [a6, a7] ∧ Cel.ok (α := List Int) H [a8] ∧ ([] : List AV) = []) = _
  simp
@[simp high] theorem okc_Spec (H : List AObj) (x : Spec) : Cel.ok (α := Spec) H [.int .i64 x.ID, .int .i64 x.Prio, .int .u64 x.Skill.toNat, .int .u64 x.Gear.toNat, .int .i64 x.From.X, .int .i64 x.From.Y, .int .i64 x.To.X, .int .i64 x.To.Y, .view (x.After.map Cel.c)] := Cel.ok_c H x
@[simp] theorem eta_Spec (x : Spec) : Spec.mk x.ID x.Prio x.Skill x.Gear x.From x.To x.After = x := rfl
@[simp] theorem nth_Spec (xs : List Spec) (n : Nat) : nth (xs.map Cel.c) n [.int .i64 0, .int .i64 0, .int .u64 0, .int .u64 0, .int .i64 0, .int .i64 0, .int .i64 0, .int .i64 0, .view []] = Cel.c (nth xs n Spec.zero) := nth_c rfl
structure Rul where
  Tasks : Int
  Crew : Int
  Units : Int
  Lease : Int
  Tries : Int
  Rate : Int
  Start : Int
  Aisles : List Ais
  deriving DecidableEq
abbrev Rul.P : Type := Int × Int × Int × Int × Int × Int × Int × (List Ais) × Unit
def Rul.to (x : Rul) : Rul.P := (x.Tasks, x.Crew, x.Units, x.Lease, x.Tries, x.Rate, x.Start, x.Aisles, ())
def Rul.of (y : Rul.P) : Rul := ⟨y.1, y.2.1, y.2.2.1, y.2.2.2.1, y.2.2.2.2.1, y.2.2.2.2.2.1, y.2.2.2.2.2.2.1, y.2.2.2.2.2.2.2.1⟩
instance : Cel Rul := Cel.iso Rul.to Rul.of (fun _ => rfl) (fun _ => rfl)
instance : Rd Rul := Rd.struct Rul.to Rul.of (fun _ => rfl) (fun _ => rfl) rfl
@[simp] theorem wf_Rul (x : Rul) : Rd.wf x = (Rd.wf x.Tasks ∧ Rd.wf x.Crew ∧ Rd.wf x.Units ∧ Rd.wf x.Lease ∧ Rd.wf x.Tries ∧ Rd.wf x.Rate ∧ Rd.wf x.Start ∧ Rd.wf x.Aisles) := by
  show (Rd.wf x.Tasks ∧ Rd.wf x.Crew ∧ Rd.wf x.Units ∧ Rd.wf x.Lease ∧ Rd.wf x.Tries ∧ Rd.wf x.Rate ∧ Rd.wf x.Start ∧ Rd.wf x.Aisles ∧ True) = _
  simp
def Rul.zero : Rul := ⟨0, 0, 0, 0, 0, 0, 0, []⟩
instance : Inhabited Rul := ⟨Rul.zero⟩
@[simp] theorem default_Rul : (default : Rul) = Rul.zero := rfl
@[simp] theorem c_Rul (x : Rul) : Cel.c x = [.int .i64 x.Tasks, .int .i64 x.Crew, .int .i64 x.Units, .int .i64 x.Lease, .int .i64 x.Tries, .int .i64 x.Rate, .int .i64 x.Start, .view (x.Aisles.map Cel.c)] := rfl
@[simp] theorem en_Rul (x : Rul) : en x = .agg [.int .i64 x.Tasks, .int .i64 x.Crew, .int .i64 x.Units, .int .i64 x.Lease, .int .i64 x.Tries, .int .i64 x.Rate, .int .i64 x.Start, .view (x.Aisles.map Cel.c)] := rfl
@[simp] theorem agg_Rul : Cel.agg Rul = true := rfl
@[simp] theorem u_Rul (H : List AObj) (a0 a1 a2 a3 a4 a5 a6 a7 : AV) : Cel.u (α := Rul) H [a0, a1, a2, a3, a4, a5, a6, a7] = ⟨Cel.u H [a0], Cel.u H [a1], Cel.u H [a2], Cel.u H [a3], Cel.u H [a4], Cel.u H [a5], Cel.u H [a6], Cel.u H [a7]⟩ := rfl
@[simp] theorem ok_Rul (H : List AObj) (a0 a1 a2 a3 a4 a5 a6 a7 : AV) : Cel.ok (α := Rul) H [a0, a1, a2, a3, a4, a5, a6, a7] = (Cel.ok (α := Int) H [a0] ∧ Cel.ok (α := Int) H [a1] ∧ Cel.ok (α := Int) H [a2] ∧ Cel.ok (α := Int) H [a3] ∧ Cel.ok (α := Int) H [a4] ∧ Cel.ok (α := Int) H [a5] ∧ Cel.ok (α := Int) H [a6] ∧ Cel.ok (α := List Ais) H [a7]) := by
  show (Cel.ok (α := Int) H [a0] ∧ Cel.ok (α := Int) H [a1] ∧ Cel.ok (α := Int) H [a2] ∧ Cel.ok (α := Int) H [a3] ∧ Cel.ok (α := Int) H [a4] ∧ Cel.ok (α := Int) H [a5] ∧ Cel.ok (α := Int) H [a6] ∧ Cel.ok (α := List Ais) H [a7] ∧ ([] : List AV) = []) = _
  simp
@[simp high] theorem okc_Rul (H : List AObj) (x : Rul) : Cel.ok (α := Rul) H [.int .i64 x.Tasks, .int .i64 x.Crew, .int .i64 x.Units, .int .i64 x.Lease, .int .i64 x.Tries, .int .i64 x.Rate, .int .i64 x.Start, .view (x.Aisles.map Cel.c)] := Cel.ok_c H x
@[simp] theorem eta_Rul (x : Rul) : Rul.mk x.Tasks x.Crew x.Units x.Lease x.Tries x.Rate x.Start x.Aisles = x := rfl
@[simp] theorem nth_Rul (xs : List Rul) (n : Nat) : nth (xs.map Cel.c) n [.int .i64 0, .int .i64 0, .int .i64 0, .int .i64 0, .int .i64 0, .int .i64 0, .int .i64 0, .view []] = Cel.c (nth xs n Rul.zero) := nth_c rfl
structure Tsk where
  Sp : Spec
  Status : Int
  Seq : Int
  Since : Int
  Lost : Int
  Burnt : List Int
  deriving DecidableEq
abbrev Tsk.P : Type := Spec × Int × Int × Int × Int × (List Int) × Unit
def Tsk.to (x : Tsk) : Tsk.P := (x.Sp, x.Status, x.Seq, x.Since, x.Lost, x.Burnt, ())
def Tsk.of (y : Tsk.P) : Tsk := ⟨y.1, y.2.1, y.2.2.1, y.2.2.2.1, y.2.2.2.2.1, y.2.2.2.2.2.1⟩
instance : Cel Tsk := Cel.iso Tsk.to Tsk.of (fun _ => rfl) (fun _ => rfl)
instance : Rd Tsk := Rd.struct Tsk.to Tsk.of (fun _ => rfl) (fun _ => rfl) rfl
@[simp] theorem wf_Tsk (x : Tsk) : Rd.wf x = (Rd.wf x.Sp ∧ Rd.wf x.Status ∧ Rd.wf x.Seq ∧ Rd.wf x.Since ∧ Rd.wf x.Lost ∧ Rd.wf x.Burnt) := by
  show (Rd.wf x.Sp ∧ Rd.wf x.Status ∧ Rd.wf x.Seq ∧ Rd.wf x.Since ∧ Rd.wf x.Lost ∧ Rd.wf x.Burnt ∧ True) = _
  simp
def Tsk.zero : Tsk := ⟨⟨0, 0, 0#64, 0#64, ⟨0, 0⟩, ⟨0, 0⟩, []⟩, 0, 0, 0, 0, []⟩
instance : Inhabited Tsk := ⟨Tsk.zero⟩
@[simp] theorem default_Tsk : (default : Tsk) = Tsk.zero := rfl
@[simp] theorem c_Tsk (x : Tsk) : Cel.c x = [.int .i64 x.Sp.ID, .int .i64 x.Sp.Prio, .int .u64 x.Sp.Skill.toNat, .int .u64 x.Sp.Gear.toNat, .int .i64 x.Sp.From.X, .int .i64 x.Sp.From.Y, .int .i64 x.Sp.To.X, .int .i64 x.Sp.To.Y, .view (x.Sp.After.map Cel.c), .int .i64 x.Status, .int .i64 x.Seq, .int .i64 x.Since, .int .i64 x.Lost, .view (x.Burnt.map Cel.c)] := rfl
@[simp] theorem en_Tsk (x : Tsk) : en x = .agg [.int .i64 x.Sp.ID, .int .i64 x.Sp.Prio, .int .u64 x.Sp.Skill.toNat, .int .u64 x.Sp.Gear.toNat, .int .i64 x.Sp.From.X, .int .i64 x.Sp.From.Y, .int .i64 x.Sp.To.X, .int .i64 x.Sp.To.Y, .view (x.Sp.After.map Cel.c), .int .i64 x.Status, .int .i64 x.Seq, .int .i64 x.Since, .int .i64 x.Lost, .view (x.Burnt.map Cel.c)] := rfl
@[simp] theorem agg_Tsk : Cel.agg Tsk = true := rfl
@[simp] theorem u_Tsk (H : List AObj) (a0 a1 a2 a3 a4 a5 a6 a7 a8 a9 a10 a11 a12 a13 : AV) : Cel.u (α := Tsk) H [a0, a1, a2, a3, a4, a5, a6, a7, a8, a9, a10, a11, a12, a13] = ⟨Cel.u H [a0, a1, a2, a3, a4, a5, a6, a7, a8], Cel.u H [a9], Cel.u H [a10], Cel.u H [a11], Cel.u H [a12], Cel.u H [a13]⟩ := rfl
@[simp] theorem ok_Tsk (H : List AObj) (a0 a1 a2 a3 a4 a5 a6 a7 a8 a9 a10 a11 a12 a13 : AV) : Cel.ok (α := Tsk) H [a0, a1, a2, a3, a4, a5, a6, a7, a8, a9, a10, a11, a12, a13] = (Cel.ok (α := Spec) H [a0, a1, a2, a3, a4, a5, a6, a7, a8] ∧ Cel.ok (α := Int) H [a9] ∧ Cel.ok (α := Int) H [a10] ∧ Cel.ok (α := Int) H [a11] ∧ Cel.ok (α := Int) H [a12] ∧ Cel.ok (α := List Int) H [a13]) := by
  show (Cel.ok (α := Spec) H [a0, a1, a2, a3, a4, a5, a6, a7, a8] ∧ Cel.ok (α := Int) H [a9] ∧ Cel.ok (α := Int) H [a10] ∧ Cel.ok (α := Int) H [a11] ∧ Cel.ok (α := Int) H [a12] ∧ Cel.ok (α := List Int) H [a13] ∧ ([] : List AV) = []) = _
  simp
@[simp high] theorem okc_Tsk (H : List AObj) (x : Tsk) : Cel.ok (α := Tsk) H [.int .i64 x.Sp.ID, .int .i64 x.Sp.Prio, .int .u64 x.Sp.Skill.toNat, .int .u64 x.Sp.Gear.toNat, .int .i64 x.Sp.From.X, .int .i64 x.Sp.From.Y, .int .i64 x.Sp.To.X, .int .i64 x.Sp.To.Y, .view (x.Sp.After.map Cel.c), .int .i64 x.Status, .int .i64 x.Seq, .int .i64 x.Since, .int .i64 x.Lost, .view (x.Burnt.map Cel.c)] := Cel.ok_c H x
@[simp] theorem eta_Tsk (x : Tsk) : Tsk.mk x.Sp x.Status x.Seq x.Since x.Lost x.Burnt = x := rfl
@[simp] theorem nth_Tsk (xs : List Tsk) (n : Nat) : nth (xs.map Cel.c) n [.int .i64 0, .int .i64 0, .int .u64 0, .int .u64 0, .int .i64 0, .int .i64 0, .int .i64 0, .int .i64 0, .view [], .int .i64 0, .int .i64 0, .int .i64 0, .int .i64 0, .view []] = Cel.c (nth xs n Tsk.zero) := nth_c rfl
structure Hand where
  ID : Int
  Bits : BitVec 64
  On : Bool
  deriving DecidableEq
abbrev Hand.P : Type := Int × (BitVec 64) × Bool × Unit
def Hand.to (x : Hand) : Hand.P := (x.ID, x.Bits, x.On, ())
def Hand.of (y : Hand.P) : Hand := ⟨y.1, y.2.1, y.2.2.1⟩
instance : Cel Hand := Cel.iso Hand.to Hand.of (fun _ => rfl) (fun _ => rfl)
instance : Rd Hand := Rd.struct Hand.to Hand.of (fun _ => rfl) (fun _ => rfl) rfl
@[simp] theorem wf_Hand (x : Hand) : Rd.wf x = (Rd.wf x.ID ∧ Rd.wf x.Bits ∧ Rd.wf x.On) := by
  show (Rd.wf x.ID ∧ Rd.wf x.Bits ∧ Rd.wf x.On ∧ True) = _
  simp
def Hand.zero : Hand := ⟨0, 0#64, false⟩
instance : Inhabited Hand := ⟨Hand.zero⟩
@[simp] theorem default_Hand : (default : Hand) = Hand.zero := rfl
@[simp] theorem c_Hand (x : Hand) : Cel.c x = [.int .i64 x.ID, .int .u64 x.Bits.toNat, .bool x.On] := rfl
@[simp] theorem en_Hand (x : Hand) : en x = .agg [.int .i64 x.ID, .int .u64 x.Bits.toNat, .bool x.On] := rfl
@[simp] theorem agg_Hand : Cel.agg Hand = true := rfl
@[simp] theorem u_Hand (H : List AObj) (a0 a1 a2 : AV) : Cel.u (α := Hand) H [a0, a1, a2] = ⟨Cel.u H [a0], Cel.u H [a1], Cel.u H [a2]⟩ := rfl
@[simp] theorem ok_Hand (H : List AObj) (a0 a1 a2 : AV) : Cel.ok (α := Hand) H [a0, a1, a2] = (Cel.ok (α := Int) H [a0] ∧ Cel.ok (α := BitVec 64) H [a1] ∧ Cel.ok (α := Bool) H [a2]) := by
  show (Cel.ok (α := Int) H [a0] ∧ Cel.ok (α := BitVec 64) H [a1] ∧ Cel.ok (α := Bool) H [a2] ∧ ([] : List AV) = []) = _
  simp
@[simp high] theorem okc_Hand (H : List AObj) (x : Hand) : Cel.ok (α := Hand) H [.int .i64 x.ID, .int .u64 x.Bits.toNat, .bool x.On] := Cel.ok_c H x
@[simp] theorem eta_Hand (x : Hand) : Hand.mk x.ID x.Bits x.On = x := rfl
@[simp] theorem nth_Hand (xs : List Hand) (n : Nat) : nth (xs.map Cel.c) n [.int .i64 0, .int .u64 0, .bool false] = Cel.c (nth xs n Hand.zero) := nth_c rfl
structure Lse where
  Token : Int
  Task : Int
  Worker : Int
  Un : Int
  Due : Int
  Got : Int
  Want : List Int
  deriving DecidableEq
abbrev Lse.P : Type := Int × Int × Int × Int × Int × Int × (List Int) × Unit
def Lse.to (x : Lse) : Lse.P := (x.Token, x.Task, x.Worker, x.Un, x.Due, x.Got, x.Want, ())
def Lse.of (y : Lse.P) : Lse := ⟨y.1, y.2.1, y.2.2.1, y.2.2.2.1, y.2.2.2.2.1, y.2.2.2.2.2.1, y.2.2.2.2.2.2.1⟩
instance : Cel Lse := Cel.iso Lse.to Lse.of (fun _ => rfl) (fun _ => rfl)
instance : Rd Lse := Rd.struct Lse.to Lse.of (fun _ => rfl) (fun _ => rfl) rfl
@[simp] theorem wf_Lse (x : Lse) : Rd.wf x = (Rd.wf x.Token ∧ Rd.wf x.Task ∧ Rd.wf x.Worker ∧ Rd.wf x.Un ∧ Rd.wf x.Due ∧ Rd.wf x.Got ∧ Rd.wf x.Want) := by
  show (Rd.wf x.Token ∧ Rd.wf x.Task ∧ Rd.wf x.Worker ∧ Rd.wf x.Un ∧ Rd.wf x.Due ∧ Rd.wf x.Got ∧ Rd.wf x.Want ∧ True) = _
  simp
def Lse.zero : Lse := ⟨0, 0, 0, 0, 0, 0, []⟩
instance : Inhabited Lse := ⟨Lse.zero⟩
@[simp] theorem default_Lse : (default : Lse) = Lse.zero := rfl
@[simp] theorem c_Lse (x : Lse) : Cel.c x = [.int .i64 x.Token, .int .i64 x.Task, .int .i64 x.Worker, .int .i64 x.Un, .int .i64 x.Due, .int .i64 x.Got, .view (x.Want.map Cel.c)] := rfl
@[simp] theorem en_Lse (x : Lse) : en x = .agg [.int .i64 x.Token, .int .i64 x.Task, .int .i64 x.Worker, .int .i64 x.Un, .int .i64 x.Due, .int .i64 x.Got, .view (x.Want.map Cel.c)] := rfl
@[simp] theorem agg_Lse : Cel.agg Lse = true := rfl
@[simp] theorem u_Lse (H : List AObj) (a0 a1 a2 a3 a4 a5 a6 : AV) : Cel.u (α := Lse) H [a0, a1, a2, a3, a4, a5, a6] = ⟨Cel.u H [a0], Cel.u H [a1], Cel.u H [a2], Cel.u H [a3], Cel.u H [a4], Cel.u H [a5], Cel.u H [a6]⟩ := rfl
@[simp] theorem ok_Lse (H : List AObj) (a0 a1 a2 a3 a4 a5 a6 : AV) : Cel.ok (α := Lse) H [a0, a1, a2, a3, a4, a5, a6] = (Cel.ok (α := Int) H [a0] ∧ Cel.ok (α := Int) H [a1] ∧ Cel.ok (α := Int) H [a2] ∧ Cel.ok (α := Int) H [a3] ∧ Cel.ok (α := Int) H [a4] ∧ Cel.ok (α := Int) H [a5] ∧ Cel.ok (α := List Int) H [a6]) := by
  show (Cel.ok (α := Int) H [a0] ∧ Cel.ok (α := Int) H [a1] ∧ Cel.ok (α := Int) H [a2] ∧ Cel.ok (α := Int) H [a3] ∧ Cel.ok (α := Int) H [a4] ∧ Cel.ok (α := Int) H [a5] ∧ Cel.ok (α := List Int) H [a6] ∧ ([] : List AV) = []) = _
  simp
@[simp high] theorem okc_Lse (H : List AObj) (x : Lse) : Cel.ok (α := Lse) H [.int .i64 x.Token, .int .i64 x.Task, .int .i64 x.Worker, .int .i64 x.Un, .int .i64 x.Due, .int .i64 x.Got, .view (x.Want.map Cel.c)] := Cel.ok_c H x
@[simp] theorem eta_Lse (x : Lse) : Lse.mk x.Token x.Task x.Worker x.Un x.Due x.Got x.Want = x := rfl
@[simp] theorem nth_Lse (xs : List Lse) (n : Nat) : nth (xs.map Cel.c) n [.int .i64 0, .int .i64 0, .int .i64 0, .int .i64 0, .int .i64 0, .int .i64 0, .view []] = Cel.c (nth xs n Lse.zero) := nth_c rfl
structure Lck where
  ID : Int
  Holder : Int
  Wait : List Int
  deriving DecidableEq
abbrev Lck.P : Type := Int × Int × (List Int) × Unit
def Lck.to (x : Lck) : Lck.P := (x.ID, x.Holder, x.Wait, ())
def Lck.of (y : Lck.P) : Lck := ⟨y.1, y.2.1, y.2.2.1⟩
instance : Cel Lck := Cel.iso Lck.to Lck.of (fun _ => rfl) (fun _ => rfl)
instance : Rd Lck := Rd.struct Lck.to Lck.of (fun _ => rfl) (fun _ => rfl) rfl
@[simp] theorem wf_Lck (x : Lck) : Rd.wf x = (Rd.wf x.ID ∧ Rd.wf x.Holder ∧ Rd.wf x.Wait) := by
  show (Rd.wf x.ID ∧ Rd.wf x.Holder ∧ Rd.wf x.Wait ∧ True) = _
  simp
def Lck.zero : Lck := ⟨0, 0, []⟩
instance : Inhabited Lck := ⟨Lck.zero⟩
@[simp] theorem default_Lck : (default : Lck) = Lck.zero := rfl
@[simp] theorem c_Lck (x : Lck) : Cel.c x = [.int .i64 x.ID, .int .i64 x.Holder, .view (x.Wait.map Cel.c)] := rfl
@[simp] theorem en_Lck (x : Lck) : en x = .agg [.int .i64 x.ID, .int .i64 x.Holder, .view (x.Wait.map Cel.c)] := rfl
@[simp] theorem agg_Lck : Cel.agg Lck = true := rfl
@[simp] theorem u_Lck (H : List AObj) (a0 a1 a2 : AV) : Cel.u (α := Lck) H [a0, a1, a2] = ⟨Cel.u H [a0], Cel.u H [a1], Cel.u H [a2]⟩ := rfl
@[simp] theorem ok_Lck (H : List AObj) (a0 a1 a2 : AV) : Cel.ok (α := Lck) H [a0, a1, a2] = (Cel.ok (α := Int) H [a0] ∧ Cel.ok (α := Int) H [a1] ∧ Cel.ok (α := List Int) H [a2]) := by
  show (Cel.ok (α := Int) H [a0] ∧ Cel.ok (α := Int) H [a1] ∧ Cel.ok (α := List Int) H [a2] ∧ ([] : List AV) = []) = _
  simp
@[simp high] theorem okc_Lck (H : List AObj) (x : Lck) : Cel.ok (α := Lck) H [.int .i64 x.ID, .int .i64 x.Holder, .view (x.Wait.map Cel.c)] := Cel.ok_c H x
@[simp] theorem eta_Lck (x : Lck) : Lck.mk x.ID x.Holder x.Wait = x := rfl
@[simp] theorem nth_Lck (xs : List Lck) (n : Nat) : nth (xs.map Cel.c) n [.int .i64 0, .int .i64 0, .view []] = Cel.c (nth xs n Lck.zero) := nth_c rfl
structure Stt where
  Now : Int
  Seq : Int
  Token : Int
  Tasks : List Tsk
  Crew : List Hand
  Units : List Hand
  Leases : List Lse
  Locks : List Lck
  deriving DecidableEq
abbrev Stt.P : Type := Int × Int × Int × (List Tsk) × (List Hand) × (List Hand) × (List Lse) × (List Lck) × Unit
def Stt.to (x : Stt) : Stt.P := (x.Now, x.Seq, x.Token, x.Tasks, x.Crew, x.Units, x.Leases, x.Locks, ())
def Stt.of (y : Stt.P) : Stt := ⟨y.1, y.2.1, y.2.2.1, y.2.2.2.1, y.2.2.2.2.1, y.2.2.2.2.2.1, y.2.2.2.2.2.2.1, y.2.2.2.2.2.2.2.1⟩
instance : Cel Stt := Cel.iso Stt.to Stt.of (fun _ => rfl) (fun _ => rfl)
instance : Rd Stt := Rd.struct Stt.to Stt.of (fun _ => rfl) (fun _ => rfl) rfl
@[simp] theorem wf_Stt (x : Stt) : Rd.wf x = (Rd.wf x.Now ∧ Rd.wf x.Seq ∧ Rd.wf x.Token ∧ Rd.wf x.Tasks ∧ Rd.wf x.Crew ∧ Rd.wf x.Units ∧ Rd.wf x.Leases ∧ Rd.wf x.Locks) := by
  show (Rd.wf x.Now ∧ Rd.wf x.Seq ∧ Rd.wf x.Token ∧ Rd.wf x.Tasks ∧ Rd.wf x.Crew ∧ Rd.wf x.Units ∧ Rd.wf x.Leases ∧ Rd.wf x.Locks ∧ True) = _
  simp
def Stt.zero : Stt := ⟨0, 0, 0, [], [], [], [], []⟩
instance : Inhabited Stt := ⟨Stt.zero⟩
@[simp] theorem default_Stt : (default : Stt) = Stt.zero := rfl
@[simp] theorem c_Stt (x : Stt) : Cel.c x = [.int .i64 x.Now, .int .i64 x.Seq, .int .i64 x.Token, .view (x.Tasks.map Cel.c), .view (x.Crew.map Cel.c), .view (x.Units.map Cel.c), .view (x.Leases.map Cel.c), .view (x.Locks.map Cel.c)] := rfl
@[simp] theorem en_Stt (x : Stt) : en x = .agg [.int .i64 x.Now, .int .i64 x.Seq, .int .i64 x.Token, .view (x.Tasks.map Cel.c), .view (x.Crew.map Cel.c), .view (x.Units.map Cel.c), .view (x.Leases.map Cel.c), .view (x.Locks.map Cel.c)] := rfl
@[simp] theorem agg_Stt : Cel.agg Stt = true := rfl
@[simp] theorem u_Stt (H : List AObj) (a0 a1 a2 a3 a4 a5 a6 a7 : AV) : Cel.u (α := Stt) H [a0, a1, a2, a3, a4, a5, a6, a7] = ⟨Cel.u H [a0], Cel.u H [a1], Cel.u H [a2], Cel.u H [a3], Cel.u H [a4], Cel.u H [a5], Cel.u H [a6], Cel.u H [a7]⟩ := rfl
@[simp] theorem ok_Stt (H : List AObj) (a0 a1 a2 a3 a4 a5 a6 a7 : AV) : Cel.ok (α := Stt) H [a0, a1, a2, a3, a4, a5, a6, a7] = (Cel.ok (α := Int) H [a0] ∧ Cel.ok (α := Int) H [a1] ∧ Cel.ok (α := Int) H [a2] ∧ Cel.ok (α := List Tsk) H [a3] ∧ Cel.ok (α := List Hand) H [a4] ∧ Cel.ok (α := List Hand) H [a5] ∧ Cel.ok (α := List Lse) H [a6] ∧ Cel.ok (α := List Lck) H [a7]) := by
  show (Cel.ok (α := Int) H [a0] ∧ Cel.ok (α := Int) H [a1] ∧ Cel.ok (α := Int) H [a2] ∧ Cel.ok (α := List Tsk) H [a3] ∧ Cel.ok (α := List Hand) H [a4] ∧ Cel.ok (α := List Hand) H [a5] ∧ Cel.ok (α := List Lse) H [a6] ∧ Cel.ok (α := List Lck) H [a7] ∧ ([] : List AV) = []) = _
  simp
@[simp high] theorem okc_Stt (H : List AObj) (x : Stt) : Cel.ok (α := Stt) H [.int .i64 x.Now, .int .i64 x.Seq, .int .i64 x.Token, .view (x.Tasks.map Cel.c), .view (x.Crew.map Cel.c), .view (x.Units.map Cel.c), .view (x.Leases.map Cel.c), .view (x.Locks.map Cel.c)] := Cel.ok_c H x
@[simp] theorem eta_Stt (x : Stt) : Stt.mk x.Now x.Seq x.Token x.Tasks x.Crew x.Units x.Leases x.Locks = x := rfl
@[simp] theorem nth_Stt (xs : List Stt) (n : Nat) : nth (xs.map Cel.c) n [.int .i64 0, .int .i64 0, .int .i64 0, .view [], .view [], .view [], .view [], .view []] = Cel.c (nth xs n Stt.zero) := nth_c rfl
structure Cmd where
  Kind : Int
  ID : Int
  Bits : BitVec 64
  Batch : List Spec
  deriving DecidableEq
abbrev Cmd.P : Type := Int × Int × (BitVec 64) × (List Spec) × Unit
def Cmd.to (x : Cmd) : Cmd.P := (x.Kind, x.ID, x.Bits, x.Batch, ())
def Cmd.of (y : Cmd.P) : Cmd := ⟨y.1, y.2.1, y.2.2.1, y.2.2.2.1⟩
instance : Cel Cmd := Cel.iso Cmd.to Cmd.of (fun _ => rfl) (fun _ => rfl)
instance : Rd Cmd := Rd.struct Cmd.to Cmd.of (fun _ => rfl) (fun _ => rfl) rfl
@[simp] theorem wf_Cmd (x : Cmd) : Rd.wf x = (Rd.wf x.Kind ∧ Rd.wf x.ID ∧ Rd.wf x.Bits ∧ Rd.wf x.Batch) := by
  show (Rd.wf x.Kind ∧ Rd.wf x.ID ∧ Rd.wf x.Bits ∧ Rd.wf x.Batch ∧ True) = _
  simp
def Cmd.zero : Cmd := ⟨0, 0, 0#64, []⟩
instance : Inhabited Cmd := ⟨Cmd.zero⟩
@[simp] theorem default_Cmd : (default : Cmd) = Cmd.zero := rfl
@[simp] theorem c_Cmd (x : Cmd) : Cel.c x = [.int .i64 x.Kind, .int .i64 x.ID, .int .u64 x.Bits.toNat, .view (x.Batch.map Cel.c)] := rfl
@[simp] theorem en_Cmd (x : Cmd) : en x = .agg [.int .i64 x.Kind, .int .i64 x.ID, .int .u64 x.Bits.toNat, .view (x.Batch.map Cel.c)] := rfl
@[simp] theorem agg_Cmd : Cel.agg Cmd = true := rfl
@[simp] theorem u_Cmd (H : List AObj) (a0 a1 a2 a3 : AV) : Cel.u (α := Cmd) H [a0, a1, a2, a3] = ⟨Cel.u H [a0], Cel.u H [a1], Cel.u H [a2], Cel.u H [a3]⟩ := rfl
@[simp] theorem ok_Cmd (H : List AObj) (a0 a1 a2 a3 : AV) : Cel.ok (α := Cmd) H [a0, a1, a2, a3] = (Cel.ok (α := Int) H [a0] ∧ Cel.ok (α := Int) H [a1] ∧ Cel.ok (α := BitVec 64) H [a2] ∧ Cel.ok (α := List Spec) H [a3]) := by
  show (Cel.ok (α := Int) H [a0] ∧ Cel.ok (α := Int) H [a1] ∧ Cel.ok (α := BitVec 64) H [a2] ∧ Cel.ok (α := List Spec) H [a3] ∧ ([] : List AV) = []) = _
  simp
@[simp high] theorem okc_Cmd (H : List AObj) (x : Cmd) : Cel.ok (α := Cmd) H [.int .i64 x.Kind, .int .i64 x.ID, .int .u64 x.Bits.toNat, .view (x.Batch.map Cel.c)] := Cel.ok_c H x
@[simp] theorem eta_Cmd (x : Cmd) : Cmd.mk x.Kind x.ID x.Bits x.Batch = x := rfl
@[simp] theorem nth_Cmd (xs : List Cmd) (n : Nat) : nth (xs.map Cel.c) n [.int .i64 0, .int .i64 0, .int .u64 0, .view []] = Cel.c (nth xs n Cmd.zero) := nth_c rfl
structure Evt where
  Kind : Int
  A : Int
  B : Int
  C : Int
  D : Int
  deriving DecidableEq
abbrev Evt.P : Type := Int × Int × Int × Int × Int × Unit
def Evt.to (x : Evt) : Evt.P := (x.Kind, x.A, x.B, x.C, x.D, ())
def Evt.of (y : Evt.P) : Evt := ⟨y.1, y.2.1, y.2.2.1, y.2.2.2.1, y.2.2.2.2.1⟩
instance : Cel Evt := Cel.iso Evt.to Evt.of (fun _ => rfl) (fun _ => rfl)
instance : Rd Evt := Rd.struct Evt.to Evt.of (fun _ => rfl) (fun _ => rfl) rfl
@[simp] theorem wf_Evt (x : Evt) : Rd.wf x = (Rd.wf x.Kind ∧ Rd.wf x.A ∧ Rd.wf x.B ∧ Rd.wf x.C ∧ Rd.wf x.D) := by
  show (Rd.wf x.Kind ∧ Rd.wf x.A ∧ Rd.wf x.B ∧ Rd.wf x.C ∧ Rd.wf x.D ∧ True) = _
  simp
def Evt.zero : Evt := ⟨0, 0, 0, 0, 0⟩
instance : Inhabited Evt := ⟨Evt.zero⟩
@[simp] theorem default_Evt : (default : Evt) = Evt.zero := rfl
@[simp] theorem c_Evt (x : Evt) : Cel.c x = [.int .i64 x.Kind, .int .i64 x.A, .int .i64 x.B, .int .i64 x.C, .int .i64 x.D] := rfl
@[simp] theorem en_Evt (x : Evt) : en x = .agg [.int .i64 x.Kind, .int .i64 x.A, .int .i64 x.B, .int .i64 x.C, .int .i64 x.D] := rfl
@[simp] theorem agg_Evt : Cel.agg Evt = true := rfl
@[simp] theorem u_Evt (H : List AObj) (a0 a1 a2 a3 a4 : AV) : Cel.u (α := Evt) H [a0, a1, a2, a3, a4] = ⟨Cel.u H [a0], Cel.u H [a1], Cel.u H [a2], Cel.u H [a3], Cel.u H [a4]⟩ := rfl
@[simp] theorem ok_Evt (H : List AObj) (a0 a1 a2 a3 a4 : AV) : Cel.ok (α := Evt) H [a0, a1, a2, a3, a4] = (Cel.ok (α := Int) H [a0] ∧ Cel.ok (α := Int) H [a1] ∧ Cel.ok (α := Int) H [a2] ∧ Cel.ok (α := Int) H [a3] ∧ Cel.ok (α := Int) H [a4]) := by
  show (Cel.ok (α := Int) H [a0] ∧ Cel.ok (α := Int) H [a1] ∧ Cel.ok (α := Int) H [a2] ∧ Cel.ok (α := Int) H [a3] ∧ Cel.ok (α := Int) H [a4] ∧ ([] : List AV) = []) = _
  simp
@[simp high] theorem okc_Evt (H : List AObj) (x : Evt) : Cel.ok (α := Evt) H [.int .i64 x.Kind, .int .i64 x.A, .int .i64 x.B, .int .i64 x.C, .int .i64 x.D] := Cel.ok_c H x
@[simp] theorem eta_Evt (x : Evt) : Evt.mk x.Kind x.A x.B x.C x.D = x := rfl
@[simp] theorem nth_Evt (xs : List Evt) (n : Nat) : nth (xs.map Cel.c) n [.int .i64 0, .int .i64 0, .int .i64 0, .int .i64 0, .int .i64 0] = Cel.c (nth xs n Evt.zero) := nth_c rfl
structure Ans where
  E : Int
  Events : List Evt
  deriving DecidableEq
abbrev Ans.P : Type := Int × (List Evt) × Unit
def Ans.to (x : Ans) : Ans.P := (x.E, x.Events, ())
def Ans.of (y : Ans.P) : Ans := ⟨y.1, y.2.1⟩
instance : Cel Ans := Cel.iso Ans.to Ans.of (fun _ => rfl) (fun _ => rfl)
instance : Rd Ans := Rd.struct Ans.to Ans.of (fun _ => rfl) (fun _ => rfl) rfl
@[simp] theorem wf_Ans (x : Ans) : Rd.wf x = (Rd.wf x.E ∧ Rd.wf x.Events) := by
  show (Rd.wf x.E ∧ Rd.wf x.Events ∧ True) = _
  simp
def Ans.zero : Ans := ⟨0, []⟩
instance : Inhabited Ans := ⟨Ans.zero⟩
@[simp] theorem default_Ans : (default : Ans) = Ans.zero := rfl
@[simp] theorem c_Ans (x : Ans) : Cel.c x = [.int .i64 x.E, .view (x.Events.map Cel.c)] := rfl
@[simp] theorem en_Ans (x : Ans) : en x = .agg [.int .i64 x.E, .view (x.Events.map Cel.c)] := rfl
@[simp] theorem agg_Ans : Cel.agg Ans = true := rfl
@[simp] theorem u_Ans (H : List AObj) (a0 a1 : AV) : Cel.u (α := Ans) H [a0, a1] = ⟨Cel.u H [a0], Cel.u H [a1]⟩ := rfl
@[simp] theorem ok_Ans (H : List AObj) (a0 a1 : AV) : Cel.ok (α := Ans) H [a0, a1] = (Cel.ok (α := Int) H [a0] ∧ Cel.ok (α := List Evt) H [a1]) := by
  show (Cel.ok (α := Int) H [a0] ∧ Cel.ok (α := List Evt) H [a1] ∧ ([] : List AV) = []) = _
  simp
@[simp high] theorem okc_Ans (H : List AObj) (x : Ans) : Cel.ok (α := Ans) H [.int .i64 x.E, .view (x.Events.map Cel.c)] := Cel.ok_c H x
@[simp] theorem eta_Ans (x : Ans) : Ans.mk x.E x.Events = x := rfl
@[simp] theorem nth_Ans (xs : List Ans) (n : Nat) : nth (xs.map Cel.c) n [.int .i64 0, .view []] = Cel.c (nth xs n Ans.zero) := nth_c rfl
end Go.Proofs.Ytnjpfoblmomnlaa.Sx
