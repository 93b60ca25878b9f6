/- Two words, as one argument. No conditions: a kit of our own. -/
import Derived.Test.YtfjidignjjaihaaTy3
namespace Go.Proofs.Ytfjidignjjaihaa.Sx
open Go Go.RowKit Go.ChangeShapes Go.WideShapes Go.ChangeAt
set_option linter.unusedVariables false
set_option linter.unusedSimpArgs false

structure W2 where
  A : BitVec 64
  B : BitVec 64
abbrev W2.P : Type := BitVec 64 × BitVec 64 × Unit
def W2.to (x : W2) : W2.P := (x.A, x.B, ())
def W2.of (y : W2.P) : W2 := ⟨y.1, y.2.1⟩
instance : Cel W2 := Cel.iso W2.to W2.of (fun _ => rfl) (fun _ => rfl)
theorem okWide_array {P : Program} {W : World} {r : Reach} {b : Nat} {t e : TypeId} {n : Nat} {v : Value} (ht : P.underlying t = some (.array n e)) (h : Value.okWide P W r b t v) : ∃ cs, v = .agg cs ∧ cs.size = P.cellsOf t := by
  simp only [Value.okWide, ht] at h
  obtain ⟨cs, h1, h2, _⟩ := h
  exact ⟨cs, h1, h2⟩
def isW2 (P : Program) (t : TypeId) : Bool := (match P.underlying t with | some (.array n e) => n == 2 && isInt P e .u64 | _ => false) && P.cellsOf t == 2
theorem isW2_spec {P : Program} {t : TypeId} (h : isW2 P t = true) : ∃ e, P.underlying t = some (.array 2 e) ∧ isInt P e .u64 = true ∧ P.cellsOf t = 2 := by
  simp only [isW2, Bool.and_eq_true, beq_iff_eq] at h
  have := h.1
  split at this
  · rename_i n e he
    simp only [Bool.and_eq_true, beq_iff_eq] at this
    obtain ⟨rfl, h2⟩ := this
    exact ⟨e, he, h2, h.2⟩
  · cases this
instance : Rd W2 where
  fits P t := isW2 P t
  wf x := True
  size h := by
    obtain ⟨e, h1, h2, h3⟩ := isW2_spec h
    exact h3
  rd {H enc P W fuel t cs x} h hd := by
    obtain ⟨e, h1, h2, h3⟩ := isW2_spec h
    obtain ⟨xs, m, _, _, hl, hx, hf⟩ := DataW.trod_array h1 hd
    rw [h3] at hl
    have hc : P.cellsOf e = 1 := (isInt_spec h2).2
    match cs, hl with
    | [c0, c1], _ =>
      have e0 := hf 0 (by omega)
      have e1 := hf 1 (by omega)
      rw [hc] at e0 e1
      rw [List.getElem?_eq_getElem (by omega)] at e0 e1
      simp at e0 e1
      obtain ⟨a, ha, oa, _⟩ := Rd.rd (α := BitVec 64) h2 e0
      obtain ⟨b, hb, ob, _⟩ := Rd.rd (α := BitVec 64) h2 e1
      refine ⟨⟨a, b⟩, ?_, fun v hv => ?_, trivial⟩
      · exact ha.append hb
      · simp only [List.mem_cons, List.not_mem_nil, or_false] at hv
        rcases hv with rfl | rfl
        · exact oa _ (by simp)
        · exact ob _ (by simp)
  top h hv := by
    obtain ⟨e, h1, h2, h3⟩ := isW2_spec h
    obtain ⟨cs, rfl, _⟩ := okWide_array h1 hv
    rfl
@[simp] theorem c_W2 (x : W2) : Cel.c x = [.int .u64 x.A.toNat, .int .u64 x.B.toNat] := rfl
@[simp] theorem en_W2 (x : W2) : en x = .agg [.int .u64 x.A.toNat, .int .u64 x.B.toNat] := rfl
end Go.Proofs.Ytfjidignjjaihaa.Sx
