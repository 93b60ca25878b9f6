/- Complex numbers as values. No conditions: a kit of our own. -/
import Derived.Test.YtjpgnicgapkndaaTy3
import Derived.Test.YtjpgnicgapkndaaFlt1
namespace Go.Proofs.Ytjpgnicgapkndaa.Sx
open Go Go.RowKit
set_option linter.unusedVariables false
set_option linter.unusedSimpArgs false

theorem flat_val (w : Value) : Flat (.val w) := fun E E' v h => by cases h; exact .val _
structure Cx where
  re : Nat
  im : Nat
def cxOf : AV → Cx
  | .val (.complex .f64 a b) => ⟨a, b⟩
  | _ => ⟨0, 0⟩
instance : Cel Cx where
  n := 1
  agg := false
  c z := [.val (.complex .f64 z.re z.im)]
  u H cs := cxOf (nth cs 0 .any)
  ok H cs := match cs with | [.val (.complex .f64 _ _)] => True | _ => False
  len x := rfl
  plain x a h := by simp at h; subst h; rfl
  closed x a h := by simp at h; subst h; exact .val _
  nn x := by simp
  one _ := rfl
  u_c H x := rfl
  ok_c H x := trivial
  seen H cs h := by
    split at h
    · exact ⟨rfl, fun i a b h1 h2 => by
        match i with
        | 0 => simp [cxOf] at h1 h2; subst h1; subst h2; exact .val _
        | i + 1 => simp at h1⟩
    · exact h.elim
@[simp] theorem c_Cx (z : Cx) : Cel.c z = [.val (.complex .f64 z.re z.im)] := rfl
@[simp] theorem u_Cx (H : List AObj) (a b : Nat) : Cel.u (α := Cx) H [.val (.complex .f64 a b)] = ⟨a, b⟩ := rfl
@[simp] theorem ok_Cx (H : List AObj) (a b : Nat) : Cel.ok (α := Cx) H [.val (.complex .f64 a b)] = True := rfl
@[simp] theorem en_Cx (z : Cx) : en z = .val (.complex .f64 z.re z.im) := rfl
@[simp] theorem isAgg_val (w : Value) : isAgg (.val w) = false := rfl
@[simp] theorem agg_Cx : Cel.agg Cx = false := rfl
@[simp] theorem frz_val (d : Nat) (H : List AObj) (w : Value) : frz d H (.val w) = .val w := by cases d <;> rfl
@[simp] theorem frp_val (d : Nat) (H : List AObj) (w : Value) : frp d H (.val w) := by cases d <;> exact .val _
/-! ### what is done with them -/
/-- The whole number that a word stands for. -/ noncomputable def fint (w : Nat) : Int := (fT w).getD 0
def RepC (z : Cx) (x y : Int) : Prop := Rep z.re x ∧ Rep z.im y
theorem rep_fI {n : Int} (h : n.natAbs < 2 ^ 53) : Rep (fI n) n := by rw [fI_eq]; exact rep_int h
@[simp] theorem primV_i2f (k : IntKind) (n : Int) : primV .i2f [.int k n] = some (.val (.float .f64 (fI n))) := rfl
@[simp] theorem primV_cplx' (a b : Nat) : primV .cplx [.val (.float .f64 a), .val (.float .f64 b)] = some (.val (.complex .f64 a b)) := rfl
@[simp] theorem primV_re' (a b : Nat) : primV .re [.val (.complex .f64 a b)] = some (.val (.float .f64 a)) := rfl
@[simp] theorem primV_im' (a b : Nat) : primV .im [.val (.complex .f64 a b)] = some (.val (.float .f64 b)) := rfl
@[simp] theorem primV_f2i' (a : Nat) : primV .f2i [.val (.float .f64 a)] = (fT a).map fun n => .int .i64 n := rfl
@[simp] theorem primV_cadd' (a b c d : Nat) : primV .cadd [.val (.complex .f64 a b), .val (.complex .f64 c d)] = (fA a b c d).map fun r => .val (.complex .f64 r.1 r.2) := rfl
@[simp] theorem primV_csub' (a b c d : Nat) : primV .csub [.val (.complex .f64 a b), .val (.complex .f64 c d)] = (fS a b c d).map fun r => .val (.complex .f64 r.1 r.2) := rfl
@[simp] theorem primV_cmul' (a b c d : Nat) : primV .cmul [.val (.complex .f64 a b), .val (.complex .f64 c d)] = (fM a b c d).map fun r => .val (.complex .f64 r.1 r.2) := rfl
theorem repC_add {z w : Cx} {x y u v : Int} (h : RepC z x y) (k : RepC w u v) (h1 : (x + u).natAbs < 2 ^ 53) (h2 : (y + v).natAbs < 2 ^ 53) : ∃ r : Cx, fA z.re z.im w.re w.im = some (r.re, r.im) ∧ RepC r (x + u) (y + v) := by
  obtain ⟨a, ha, ra⟩ := rep_add h.1 k.1 h1
  obtain ⟨b, hb, rb⟩ := rep_add h.2 k.2 h2
  exact ⟨⟨a, b⟩, by rw [fA_eq]; simp [cSumBits, ha, hb], ra, rb⟩
theorem repC_sub {z w : Cx} {x y u v : Int} (h : RepC z x y) (k : RepC w u v) (h1 : (x - u).natAbs < 2 ^ 53) (h2 : (y - v).natAbs < 2 ^ 53) : ∃ r : Cx, fS z.re z.im w.re w.im = some (r.re, r.im) ∧ RepC r (x - u) (y - v) := by
  obtain ⟨a, ha, ra⟩ := rep_sub h.1 k.1 h1
  obtain ⟨b, hb, rb⟩ := rep_sub h.2 k.2 h2
  exact ⟨⟨a, b⟩, by rw [fS_eq]; simp [cSumBits, ha, hb], ra, rb⟩
theorem repC_mul {z w : Cx} {x y u v : Int} (h : RepC z x y) (k : RepC w u v) (h1 : (x * u).natAbs < 2 ^ 53) (h2 : (y * v).natAbs < 2 ^ 53) (h3 : (x * v).natAbs < 2 ^ 53) (h4 : (y * u).natAbs < 2 ^ 53) (h5 : (x * u - y * v).natAbs < 2 ^ 53) (h6 : (x * v + y * u).natAbs < 2 ^ 53) :
    ∃ r : Cx, fM z.re z.im w.re w.im = some (r.re, r.im) ∧ RepC r (x * u - y * v) (x * v + y * u) := by
  obtain ⟨a, ha, ra⟩ := rep_mul h.1 k.1 h1
  obtain ⟨b, hb, rb⟩ := rep_mul h.2 k.2 h2
  obtain ⟨c, hc, rc⟩ := rep_sub ra rb h5
  obtain ⟨d, hd, rd⟩ := rep_mul h.1 k.2 h3
  obtain ⟨e, he, re⟩ := rep_mul h.2 k.1 h4
  obtain ⟨g, hg, rg⟩ := rep_add rd re h6
  exact ⟨⟨c, g⟩, by rw [fM_eq]; simp [cMulBits, ha, hb, hc, hd, he, hg], rc, rg⟩
theorem rep_to {w : Nat} {x : Int} (h : Rep w x) (hx : x.natAbs < 2 ^ 53) : fT w = some x := by rw [fT_eq]; exact rep_toInt h (by omega) (by omega)
theorem rep_fint {w : Nat} {x : Int} (h : Rep w x) (hx : x.natAbs < 2 ^ 53) : fint w = x := by simp [fint, rep_to h hx]
end Go.Proofs.Ytjpgnicgapkndaa.Sx
