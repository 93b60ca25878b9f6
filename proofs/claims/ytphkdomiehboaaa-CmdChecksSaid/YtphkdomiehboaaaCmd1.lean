/- The statements of layer 28: their functions return true. No conditions: a kit of our own. -/
import Derived.Test.YtphkdomiehboaaaFn4
namespace Go.Proofs.Ytphkdomiehboaaa.Sx
open Go Go.RowKit
set_option linter.unusedVariables false
set_option linter.unusedSimpArgs false

theorem few_bounds {l : List Spec} (h : fewSpecs l = true) : l.length ≤ 70 ∧ ∀ x ∈ l, x.After.length ≤ 20 := by
  simp [fewSpecs] at h
  exact ⟨by omega, h.2⟩
def Γ28 : FuncId → Ctr := Γof [(37, cR28Few), (38, cAlive28), (39, cCmdCheck), (40, cCmdCheck), (41, cAsks), (42, cAsks),
  (43, cCmdSame), (44, cCmdSame), (45, cCmdClone), (46, cSpecErr)]
theorem knows28 : Knows Try.prog Γ28 := knows_cons known_R28Few (knows_cons known_Alive28 (knows_cons known_CmdCheck (knows_cons known_R28Check (knows_cons known_CmdAsks (knows_cons known_R28Asks (knows_cons known_CmdSame (knows_cons known_R28Same (knows_cons known_CmdClone (knows_cons known_R22Check knows_nil)))))))))
theorem few_30 {l : List Spec} (h : fewSpecs l = true) : l.length ≤ 1073741824 ∧ ∀ x ∈ l, x.After.length ≤ 1073741824 := by
  obtain ⟨h1, h2⟩ := few_bounds h
  exact ⟨by omega, fun x hx => by have := h2 x hx; omega⟩
theorem few_63 {l : List Spec} (h : fewSpecs l = true) : l.length ≤ 9223372036854775807 ∧ ∀ x ∈ l, x.After.length ≤ 9223372036854775807 := by
  obtain ⟨h1, h2⟩ := few_bounds h
  exact ⟨by omega, fun x hx => by have := h2 x hx; omega⟩
theorem det_CmdChecks (a : Cmd) (wa : Rd.wf a) (b : Cmd) (wb : Rd.wf b) : Det Try.prog 7 [en a, en b] [] (.bool true) [] := by
  refine det_finF mixed0 knows28 ok_l28_CmdChecks 1 (by simp) ?_
  simp at wa wb
  simp [ic_l28_CmdChecks, rs_l28_CmdChecks, Γ28, cR28Few, cAlive28, cCmdCheck, cAsks, cCmdSame, cCmdClone, vcLoose]
  exact ⟨⟨wa.2.2.1, wb.2.2.1⟩, fun h1 h2 => ⟨few_30 h1, few_63 h1, few_30 h1, few_63 h1⟩⟩
theorem cmdErr_zero {c : Cmd} (h : cmdErr c = 0) : 1 ≤ c.Kind ∧ c.Kind ≤ 15 ∧ (c.Kind ≠ 1 → c.Batch = []) ∧ c.Batch.length ≤ 64 ∧ 0 ≤ c.ID ∧ (c.Kind = 1 → c.ID = 0) ∧ ∀ x ∈ c.Batch, specErr x = 0 := by
  rw [cmdErr_ref] at h
  have hn : c.Batch = [] ↔ c.Batch.length = 0 := List.length_eq_zero_iff.symm
  have h1 : hasID 1 = false := rfl
  have hb : batchErr c.Batch = 0 → ∀ x ∈ c.Batch, specErr x = 0 := batchErr_small.1
  have h9 : c.Batch = [] → batchErr c.Batch = 0 := fun e => by rw [e]; rfl
  have hi : hasID c.Kind = true → 1 ≤ c.Kind ∧ c.Kind ≠ 1 := fun e => by
    simp [hasID] at e; omega
  generalize batchErr c.Batch = be at *
  generalize hasID c.Kind = hid at *
  by_cases hk : c.Kind = 1
  · have : hid = false := by cases hid <;> simp_all
    grind
  · grind
theorem cmdErr_form1 {c : Cmd} (hk : c.Kind = 1) : cmdErr ⟨c.Kind, 1, c.Bits, c.Batch⟩ = 3 := by
  rw [cmdErr_ref]; simp [hk, hasID]
theorem cmdErr_form2 {c : Cmd} (h1 : 1 ≤ c.Kind) (h2 : c.Kind ≤ 15) (hk : c.Kind ≠ 1) (x : Spec) : cmdErr ⟨c.Kind, c.ID, c.Bits, [x]⟩ = 3 := by
  rw [cmdErr_ref]
  rw [if_neg (by simp; omega), if_pos (by simp [hk])]
theorem det_CmdShape (c : Cmd) (wc : Rd.wf c) : Det Try.prog 8 [en c] [] (.bool true) [] := by
  refine det_finF mixed0 knows28 ok_l28_CmdShape 1 (by simp) ?_
  simp at wc
  replace wc := wc.2.2.1
  simp [ic_l28_CmdShape, rs_l28_CmdShape, Γ28, cR28Few, cAlive28, cCmdCheck, cAsks, cCmdSame, cCmdClone, cSpecErr, vcLoose]
  refine ⟨wc, fun h => few_30 h, fun hf he => ?_⟩
  obtain ⟨k1, k2, k3, k4, k5, k6, k7⟩ := cmdErr_zero he
  obtain ⟨f1, f2⟩ := few_bounds hf
  refine ⟨by grind, by grind, by grind, fun _ _ _ _ _ => ?_⟩
  refine LoopC.scan Spec.zero c.Batch (fun i : Nat => ⟨[(1, .ptr 0 0 0), (47, .view (c.Batch.map Cel.c)), (48, .int .i64 c.Batch.length), (49, .int .i64 i)], [.rows 4 [Cel.c c]]⟩) (fun r => (∀ x ∈ r, specErr x = 0) ∧ ∀ x ∈ r, x.After.length ≤ 20) (by simp) (by simp) ⟨k7, f2⟩ (fun i a r hi ha hG => ?_) fun hG => ?_
  · have h1 := hG.1 a (by simp)
    have h2 := hG.2 a (by simp)
    simp [hi, ha, h1]
    exact ⟨by omega, by omega, fun x hx => hG.1 x (by simp [hx]), fun x hx => hG.2 x (by simp [hx])⟩
  · have b1 := few_30 hf
    have b2 := few_63 hf
    simp [b1.1]
    refine ⟨b1.2, fun hk => ⟨b1.2, fun _ => b2, cmdErr_form1 hk, fun e => ?_⟩, fun hk => ⟨fun _ => b2, cmdErr_form2 k1 k2 hk _, fun e => ?_⟩⟩
    · have h8 : c.ID = 1 := congrArg Cmd.ID e
      have h9 := k6 hk
      omega
    · have h8 := congrArg Cmd.Batch e
      rw [k3 hk] at h8
      cases h8
end Go.Proofs.Ytphkdomiehboaaa.Sx
