/- Packages gauss and motion: points as complex numbers. No conditions: a kit of our own. -/
import Derived.Test.YtjpgnicgapkndaaTy16
import Derived.Test.YtjpgnicgapkndaaFnP2
import Derived.Test.YtjpgnicgapkndaaIrG
namespace Go.Proofs.Ytjpgnicgapkndaa.Sx
open Go Go.RowKit
set_option linter.unusedVariables false
set_option linter.unusedSimpArgs false

def farI (n : Int) : Int := max (min n 1048576) (-1048576)
theorem farI_le (n : Int) : -1048576 ≤ farI n ∧ farI n ≤ 1048576 := by unfold farI; omega
theorem farI_in {n : Int} (h : -1048576 ≤ n) (h' : n ≤ 1048576) : farI n = n := by unfold farI; omega
def farP (p : Pt) : Pt := ⟨farI p.X, farI p.Y⟩
def icP (F G : Int) : ICode :=
 .seq (.ops 0 false [⟨some 1, .box (.t 0), none, false, false, [0]⟩,
  ⟨some 2, .mv (.c (.val (.complex .f64 0 0))), none, false, false, [2]⟩])
 (.seq (.ops 1 false [⟨some 3, .fa 0 (.t 1), none, false, false, []⟩,
  ⟨some 4, .ld none [] (.t 3), none, false, false, [3]⟩,
  ⟨some 5, .mn [.t 4, .c (.int .i64 F)], none, false, false, [4]⟩,
  ⟨some 6, .mx [.t 5, .c (.int .i64 G)], none, false, false, [5]⟩,
  ⟨some 7, .prim .i2f [.t 6], none, false, false, [6]⟩,
  ⟨some 8, .fa 1 (.t 1), none, false, false, [1]⟩,
  ⟨some 9, .ld none [] (.t 8), none, false, false, [8]⟩,
  ⟨some 10, .mn [.t 9, .c (.int .i64 F)], none, false, false, [9]⟩,
  ⟨some 11, .mx [.t 10, .c (.int .i64 G)], none, false, false, [10]⟩,
  ⟨some 12, .prim .i2f [.t 11], none, false, false, [11]⟩,
  ⟨some 13, .prim .cplx [.t 7, .t 12], none, false, false, [7, 12]⟩,
  ⟨some 2, .mv (.t 13), none, false, false, [13]⟩])
 (.ret))
theorem plane_vc (Γ : FuncId → Ctr) (p : Pt) (F G : Int) : vc Γ 0 (icP F G) (finF 1 [.t 2] (en (⟨fI (max (min p.X F) G), fI (max (min p.Y F) G)⟩ : Cx))) ⟨slots 0 [en p], []⟩ := by
  simp [icP, mxI, mnI]
theorem icP_eq : ic_gauss_plane = icP 1048576 (-1048576) := rfl
theorem det_gauss_plane (p : Pt) : Det Try.prog 61 [en p] [] (en (⟨fI (farI p.X), fI (farI p.Y)⟩ : Cx)) [] := by
  refine det_finF mixed0 knows_nil ok_gauss_plane 1 (by simp) ?_
  rw [icP_eq]
  exact plane_vc _ p _ _
/-- .. -/ noncomputable def cGPlane : Ctr := V1 (fun p : Pt => True) fun p => en (⟨fI (farI p.X), fI (farI p.Y)⟩ : Cx)
theorem known_GPlane : Known Try.prog 61 cGPlane := known_V1 (fun p _ => det_gauss_plane p) fun p _ => closed_en _
def okZ (z : Cx) : Prop := ∃ x y, RepC z x y ∧ x.natAbs < 2 ^ 53 ∧ y.natAbs < 2 ^ 53
/-- .. -/ noncomputable def ptZ (z : Cx) : Pt := ⟨fint z.re, fint z.im⟩
theorem okZ_to {z : Cx} (h : okZ z) : fT z.re = some (ptZ z).X ∧ fT z.im = some (ptZ z).Y := by
  obtain ⟨x, y, ⟨h1, h2⟩, h3, h4⟩ := h
  exact ⟨by rw [rep_to h1 h3]; simp only [ptZ, rep_fint h1 h3], by rw [rep_to h2 h4]; simp only [ptZ, rep_fint h2 h4]⟩
theorem ptZ_of {z : Cx} {x y : Int} (h : RepC z x y) (h1 : x.natAbs < 2 ^ 53) (h2 : y.natAbs < 2 ^ 53) : ptZ z = ⟨x, y⟩ := by
  simp only [ptZ, rep_fint h.1 h1, rep_fint h.2 h2]
theorem det_gauss_point (z : Cx) (hz : okZ z) : Det Try.prog 60 [en z] [] (en (ptZ z)) [] := by
  refine det_finF mixed0 knows_nil ok_gauss_point 2 (by simp) ?_
  obtain ⟨h1, h2⟩ := okZ_to hz
  simp [ic_gauss_point, rs_gauss_point, h1, h2]
/-- .. -/ noncomputable def cZPoint : Ctr := V1 okZ fun z => en (ptZ z)
theorem known_GPoint : Known Try.prog 60 cZPoint := known_V1 (fun z h => det_gauss_point z h) fun z _ => closed_en _
theorem rep_far (n : Int) : Rep (fI (farI n)) (farI n) := rep_fI (by have := farI_le n; omega)
theorem det_gauss_Fix (p : Pt) : Det Try.prog 48 [en p] [] (en (farP p)) [] := by
  refine det_finF mixed0 (knows_cons known_GPlane (knows_cons known_GPoint knows_nil)) ok_gauss_Fix 2 (by simp) ?_
  have hx := farI_le p.X
  have hy := farI_le p.Y
  have hz : okZ ⟨fI (farI p.X), fI (farI p.Y)⟩ := ⟨_, _, ⟨rep_far p.X, rep_far p.Y⟩, by omega, by omega⟩
  have e := ptZ_of (z := ⟨fI (farI p.X), fI (farI p.Y)⟩) ⟨rep_far p.X, rep_far p.Y⟩ (by omega) (by omega)
  simp [ic_gauss_Fix, rs_gauss_Fix, cGPlane, cZPoint, hz, e, farP]
def cGFix : Ctr := V1 (fun p : Pt => True) fun p => en (farP p)
theorem known_GFix : Known Try.prog 48 cGFix := known_V1 (fun p _ => det_gauss_Fix p) fun p _ => closed_en _
def subP (p q : Pt) : Pt := ⟨farI p.X - farI q.X, farI p.Y - farI q.Y⟩
theorem det_gauss_Sub (p q : Pt) : Det Try.prog 52 [en p, en q] [] (en (subP p q)) [] := by
  refine det_finF mixed0 (knows_cons known_GPlane (knows_cons known_GPoint knows_nil)) ok_gauss_Sub 2 (by simp) ?_
  have hx := farI_le p.X
  have hy := farI_le p.Y
  have hx' := farI_le q.X
  have hy' := farI_le q.Y
  obtain ⟨r, hr, rr⟩ := repC_sub (z := ⟨fI (farI p.X), fI (farI p.Y)⟩) (w := ⟨fI (farI q.X), fI (farI q.Y)⟩) ⟨rep_far p.X, rep_far p.Y⟩ ⟨rep_far q.X, rep_far q.Y⟩ (by omega) (by omega)
  have hz : okZ r := ⟨_, _, rr, by omega, by omega⟩
  have e := ptZ_of rr (by omega) (by omega)
  simp at hr
  simp [ic_gauss_Sub, rs_gauss_Sub, cGPlane, cZPoint, hr, hz, e, subP, vcLoose, heapsOf]
def cGSub : Ctr := V2 (fun p q : Pt => True) fun p q => en (subP p q)
theorem known_GSub : Known Try.prog 52 cGSub := known_V2 (fun p q _ => det_gauss_Sub p q) fun p q _ => closed_en _
def absI (n : Int) : Int := max n (-n)
theorem det_gauss_sizes (p : Pt) : Det Try.prog 63 [en p] [] (.tup [en (absI (farI p.X)), en (absI (farI p.Y))]) [] := by
  refine det_finF mixed0 (knows_cons known_GFix knows_nil) ok_gauss_sizes 1 (by simp) ?_
  have hx := farI_le p.X
  have hy := farI_le p.Y
  simp [ic_gauss_sizes, rs_gauss_sizes, cGFix, farP, absI, vcLoose, heapsOf]
  omega
def cGSizes : Ctr := C1 (fun p : Pt => True) fun p => .tup [en (absI (farI p.X)), en (absI (farI p.Y))]
theorem known_GSizes : Known Try.prog 63 cGSizes := known_C1 (fun p _ => det_gauss_sizes p) fun p => flat_tup (fun x hx => by
  simp at hx
  rcases hx with rfl | rfl <;> exact flat_int _ _)
def stepsP (p : Pt) : Int := absI (farI p.X) + absI (farI p.Y)
theorem det_gauss_Steps (p : Pt) : Det Try.prog 53 [en p] [] (en (stepsP p)) [] := by
  refine det_finF mixed0 (knows_cons known_GSizes knows_nil) ok_gauss_Steps 1 (by simp) ?_
  have hx := farI_le p.X
  have hy := farI_le p.Y
  simp [ic_gauss_Steps, rs_gauss_Steps, cGSizes, stepsP]
  unfold absI
  omega
def cGSteps : Ctr := C1 (fun p : Pt => True) fun p => en (stepsP p)
theorem known_GSteps : Known Try.prog 53 cGSteps := known_C1 (fun p _ => det_gauss_Steps p) fun p => flat_int _ _
end Go.Proofs.Ytjpgnicgapkndaa.Sx
