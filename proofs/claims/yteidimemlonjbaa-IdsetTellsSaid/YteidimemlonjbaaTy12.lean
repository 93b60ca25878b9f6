/- Contracts of pure functions that are handed some of one's own memory for good ('N'). No conditions: a kit of our own. -/
import Derived.Test.YteidimemlonjbaaTy11
namespace Go.Proofs.Yteidimemlonjbaa.Sx
open Go Go.RowKit
set_option linter.unusedVariables false
set_option linter.unusedSimpArgs false

section
variable (d : Nat)
@[simp] theorem namesA_ptr (i r o : Nat) : namesA d (.ptr i r o) = [i] := by cases d <;> rfl
@[simp] theorem namesA_sl (i r l : Nat) : namesA d (.sl i r l) = [i] := by cases d <;> rfl
@[simp] theorem namesA_agg (cs : List AV) : namesA (d + 1) (.agg cs) = cs.flatMap (namesA d) := rfl
@[simp] theorem namesA_fn (f : FuncId) (cs fs : List AV) : namesA (d + 1) (.fn f cs fs) = cs.flatMap (namesA d) ++ fs.flatMap (namesA d) := rfl
@[simp] theorem namesA_int (k : IntKind) (n : Int) : namesA d (.int k n) = [] := by cases d <;> rfl
@[simp] theorem namesA_bool (b : Bool) : namesA d (.bool b) = [] := by cases d <;> rfl
@[simp] theorem namesA_view (es : List (List AV)) : namesA d (.view es) = [] := by cases d <;> rfl
@[simp] theorem namesA_vp (r : List AV) (o : Nat) : namesA d (.vp r o) = [] := by cases d <;> rfl
@[simp] theorem namesA_nils : namesA d .nils = [] := by cases d <;> rfl
@[simp] theorem shallow_ptr (i r o : Nat) : shallow d (.ptr i r o) = True := by cases d <;> rfl
@[simp] theorem shallow_sl (i r l : Nat) : shallow d (.sl i r l) = True := by cases d <;> rfl
@[simp] theorem shallow_agg (cs : List AV) : shallow (d + 1) (.agg cs) = ∀ a ∈ cs, shallow d a := rfl
@[simp] theorem shallow_fn (f : FuncId) (cs fs : List AV) : shallow (d + 1) (.fn f cs fs) = ((∀ a ∈ cs, shallow d a) ∧ ∀ a ∈ fs, shallow d a) := rfl
@[simp] theorem shallow_int (k : IntKind) (n : Int) : shallow d (.int k n) = True := by cases d <;> exact eq_true (Closed.seen (.int _ _) _ _)
@[simp] theorem shallow_bool (b : Bool) : shallow d (.bool b) = True := by cases d <;> exact eq_true (Closed.seen (.bool _) _ _)
@[simp] theorem shallow_nils : shallow d .nils = True := by cases d <;> exact eq_true (Closed.seen .nils _ _)
@[simp] theorem shallow_view (es : List (List AV)) : shallow d (.view es) = Closed (.view es) := by cases d <;> rfl
@[simp] theorem shallow_vp (r : List AV) (o : Nat) : shallow d (.vp r o) = Closed (.vp r o) := by cases d <;> rfl
variable (n : Nat) (K : List Nat)
@[simp] theorem stD_ptr (i r o : Nat) : stD d n K (.ptr i r o) = (i ∉ K ∧ i < n) := by cases d <;> rfl
@[simp] theorem stD_sl (i r l : Nat) : stD d n K (.sl i r l) = (i ∉ K ∧ i < n) := by cases d <;> rfl
@[simp] theorem stD_agg (cs : List AV) : stD (d + 1) n K (.agg cs) = ∀ a ∈ cs, stD d n K a := rfl
@[simp] theorem stD_fn (f : FuncId) (cs fs : List AV) : stD (d + 1) n K (.fn f cs fs) = ((∀ a ∈ cs, stD d n K a) ∧ ∀ a ∈ fs, stD d n K a) := rfl
theorem stD_closed {a : AV} (h : Closed a) (hp : ∀ i r o, a ≠ .ptr i r o) (hs : ∀ i r o, a ≠ .sl i r o) (hm : ∀ i, a ≠ .map i) (ha : ∀ cs, a ≠ .agg cs) (hf : ∀ f cs fs, a ≠ .fn f cs fs) : stD d n K a := by
  cases d <;> cases a <;> first | exact h | exact absurd rfl (hp _ _ _) | exact absurd rfl (hs _ _ _) | exact absurd rfl (hm _) | exact absurd rfl (ha _) | exact absurd rfl (hf _ _ _)
@[simp] theorem stD_int (k : IntKind) (m : Int) : stD d n K (.int k m) = True := by cases d <;> exact eq_true (Closed.seen (.int _ _) _ _)
@[simp] theorem stD_bool (b : Bool) : stD d n K (.bool b) = True := by cases d <;> exact eq_true (Closed.seen (.bool _) _ _)
@[simp] theorem stD_nils : stD d n K .nils = True := by cases d <;> exact eq_true (Closed.seen .nils _ _)
@[simp] theorem stD_str (s : ByteArray) : stD d n K (.str s) = True := by cases d <;> exact eq_true (Closed.seen (.str _) _ _)
@[simp] theorem stD_view (es : List (List AV)) : stD d n K (.view es) = Closed (.view es) := by cases d <;> rfl
@[simp] theorem stD_vp (r : List AV) (o : Nat) : stD d n K (.vp r o) = Closed (.vp r o) := by cases d <;> rfl
end
theorem closed_vpc {α : Type} [Cel α] (x : α) : Closed (.vp (Cel.c x) 0) := .vp rfl fun i a b h1 h2 => by rw [h1] at h2; cases h2; exact Cel.closed x a (List.mem_of_getElem? h1)
/-- Cells of a value are closed. -/
theorem clC {α : Type} [Cel α] (x : α) : allC Closed (Cel.c x) = True := allC_c (fun x a h => Cel.closed x a h) x
theorem clR {α : Type} [Cel α] (xs : List α) : allR Closed (xs.map Cel.c) = True := allR_c (fun x a h => Cel.closed x a h) xs
attribute [simp] stO clO giveL clC clR
@[simp] theorem closed_int' (k : IntKind) (n : Int) : Closed (.int k n) = True := eq_true (.int _ _)
@[simp] theorem closed_bool' (b : Bool) : Closed (.bool b) = True := eq_true (.bool _)
@[simp] theorem closed_nils' : Closed .nils = True := eq_true .nils
@[simp] theorem closed_any' : Closed .any = True := eq_true (.any _)
/-- One's own objects that the arguments name hold nothing of one's own, and nothing else names them. -/
def handed (H : List AObj) (av : List AV) : Prop := (∀ a ∈ av, shallow 3 a) ∧ giveL H.length (av.flatMap (namesA 3)) 0 H
theorem handed_only {H : List AObj} {av : List AV} (h : handed H av) : ∀ a ∈ av, Only (av.flatMap (namesA 3)) a := fun a ha => only_names 3 a (h.1 a ha) fun i hi => List.mem_flatMap.2 ⟨a, ha, hi⟩
def N1 {α0 : Type} [Cel α0] (pre : α0 → Prop) (F : α0 → AV) : Ctr := ⟨fun a H => match a with
  | [a0] => (okA α0 H a0 ∧ handed H [a0]) ∧ pre (de α0 H a0)
  | _ => False, fun a H => match a with
  | [a0] => F (de α0 H a0)
  | _ => .any, fun a H => strike (a.flatMap (namesA 3)) H⟩
@[simp] theorem N1_pre {α0 : Type} [Cel α0] (pre : α0 → Prop) (F : α0 → AV) (a0 : AV) (H : List AObj) : (N1 pre F).pre [a0] H = ((okA α0 H a0 ∧ handed H [a0]) ∧ pre (de α0 H a0)) := rfl
@[simp] theorem N1_val {α0 : Type} [Cel α0] (pre : α0 → Prop) (F : α0 → AV) (a0 : AV) (H : List AObj) : (N1 pre F).val [a0] H = F (de α0 H a0) := rfl
@[simp] theorem N1_hp {α0 : Type} [Cel α0] (pre : α0 → Prop) (F : α0 → AV) (a0 : AV) (H : List AObj) : (N1 pre F).hp [a0] H = strike ([a0].flatMap (namesA 3)) H := rfl
theorem known_N1 {P : Program} {f : FuncId} {α0 : Type} [Cel α0] {pre : α0 → Prop} {F : α0 → AV} (h : ∀ x0, pre x0 → Det P f [en x0] [] (F x0) []) (hc : ∀ x0, pre x0 → Closed (F x0)) : Known P f (N1 pre F) := fun args H hp0 => by
  match args, hp0 with
  | [a0], hp0 =>
    obtain ⟨⟨h0, h1⟩, hp⟩ := hp0
    exact Det.give' (h _ hp) (each_cons (okA_seen h0) each_nil) (handed_only h1) (by simp [closed_en]) (hc _ hp) h1.2
def N2 {α0 α1 : Type} [Cel α0] [Cel α1] (pre : α0 → α1 → Prop) (F : α0 → α1 → AV) : Ctr := ⟨fun a H => match a with
  | [a0, a1] => ((okA α0 H a0 ∧ okA α1 H a1) ∧ handed H [a0, a1]) ∧ pre (de α0 H a0) (de α1 H a1)
  | _ => False, fun a H => match a with
  | [a0, a1] => F (de α0 H a0) (de α1 H a1)
  | _ => .any, fun a H => strike (a.flatMap (namesA 3)) H⟩
@[simp] theorem N2_pre {α0 α1 : Type} [Cel α0] [Cel α1] (pre : α0 → α1 → Prop) (F : α0 → α1 → AV) (a0 a1 : AV) (H : List AObj) : (N2 pre F).pre [a0, a1] H = (((okA α0 H a0 ∧ okA α1 H a1) ∧ handed H [a0, a1]) ∧ pre (de α0 H a0) (de α1 H a1)) := rfl
@[simp] theorem N2_val {α0 α1 : Type} [Cel α0] [Cel α1] (pre : α0 → α1 → Prop) (F : α0 → α1 → AV) (a0 a1 : AV) (H : List AObj) : (N2 pre F).val [a0, a1] H = F (de α0 H a0) (de α1 H a1) := rfl
@[simp] theorem N2_hp {α0 α1 : Type} [Cel α0] [Cel α1] (pre : α0 → α1 → Prop) (F : α0 → α1 → AV) (a0 a1 : AV) (H : List AObj) : (N2 pre F).hp [a0, a1] H = strike ([a0, a1].flatMap (namesA 3)) H := rfl
theorem known_N2 {P : Program} {f : FuncId} {α0 α1 : Type} [Cel α0] [Cel α1] {pre : α0 → α1 → Prop} {F : α0 → α1 → AV} (h : ∀ x0 x1, pre x0 x1 → Det P f [en x0, en x1] [] (F x0 x1) []) (hc : ∀ x0 x1, pre x0 x1 → Closed (F x0 x1)) : Known P f (N2 pre F) := fun args H hp0 => by
  match args, hp0 with
  | [a0, a1], hp0 =>
    obtain ⟨⟨⟨h0, h1⟩, h2⟩, hp⟩ := hp0
    exact Det.give' (h _ _ hp) (each_cons (okA_seen h0) (each_cons (okA_seen h1) each_nil)) (handed_only h2) (by simp [closed_en]) (hc _ _ hp) h2.2
attribute [simp] handed
end Go.Proofs.Yteidimemlonjbaa.Sx
