/- The statements CodeSpecs and CodeCodes: what the laws' functions give. No conditions: a kit of our own. -/
import Derived.Test.YtoapfffakfmioaaBy10
namespace Go.Proofs.Ytoapfffakfmioaa.Sx
open Go Go.RowKit
set_option linter.unusedVariables false
set_option linter.unusedSimpArgs false

theorem enc_alive : encB ⟨2, 300, 0#64, []⟩ = [2#8, 172#8, 2#8] ∧ cmdErr ⟨2, 300, 0#64, []⟩ = 0 := by
  have h0 : cmdErr ⟨2, 300, 0#64, []⟩ = 0 := by rw [cmdErr_ref]; decide
  refine ⟨?_, h0⟩
  have h1 : hasID 2 = true := by decide
  have h2 : hasBits 2 = false := by decide
  have h3 : (u64 300).toNat = 300 := by decide
  simp only [encB, h0, cmdB, h1, h2, h3]
  rw [varB_ge (by omega), varB_lt (by omega)]
  decide
theorem dec_alive : decP [11#8] = (⟨11, 0, 0#64, []⟩, 0) ∧ decP [11#8, 0#8] = (Cmd.zero, 3) := by
  have h1 : hasID 11 = false := by decide
  have h2 : hasBits 11 = false := by decide
  have hr : ∀ l, cmdRd ⟨l, 0⟩ 11 = ⟨l, 0⟩ := fun l => by simp [cmdRd, cmdT, cmdBits, cmdId, h1, h2]
  have hc : ∀ l, cmdC ⟨l, 0⟩ 11 = ⟨11, 0, 0#64, []⟩ := fun l => by simp [cmdC, cmdT, h1, h2]
  have h0 : cmdErr ⟨11, 0, 0#64, []⟩ = 0 := by rw [cmdErr_ref]; decide
  have e : (((11#8 : BitVec 8).toNat : Nat) : Int) = 11 := by decide
  constructor
  · simp only [decP]
    rw [if_neg (by decide), e]
    simp [decR, hr, hc, h0]
  · simp only [decP]
    rw [if_neg (by decide), e]
    simp [decR, hr]
theorem few29 {l : List Spec} (h : fewSpecs l = true) : l.length ≤ 70 ∧ ∀ x ∈ l, x.After.length ≤ 20 := by
  simp [fewSpecs] at h
  exact ⟨by omega, h.2⟩
theorem decP_small : ∀ b : List (BitVec 8), (decP b).1.Batch.length ≤ 64 ∧ ∀ x ∈ (decP b).1.Batch, x.After.length ≤ 8
  | [] => by simp [decP, Cmd.zero]
  | x :: l => by
    simp only [decP]
    split
    · simp [Cmd.zero]
    · unfold decR
      split
      · simp [Cmd.zero]
      · split
        · simp [Cmd.zero]
        · split
          · simp [Cmd.zero]
          · exact cmdC_small _ _
theorem det_l29_alive : Det Try.prog 12 [] [] (.bool true) [] := by
  refine det_finF mixed0 (knows_cons known_Encode (knows_cons known_Decode knows_nil)) ok_l29_alive 1 (by simp) ?_
  obtain ⟨e1, e2⟩ := enc_alive
  obtain ⟨d1, d2⟩ := dec_alive
  simp [ic_l29_alive, rs_l29_alive, cEncode, cDecode, okCmd, encV, decV, e1, e2, d1, d2]
  unfold strOfNums
  rw [ByteArray.toList_mk]
  rfl
def cAlive29 : Ctr := C0 (.bool true)
theorem known_Alive29 : Known Try.prog 12 cAlive29 := known_C0 det_l29_alive (.bool true)
theorem det_CodeSpecs (b : List (BitVec 8)) (wb : Rd.wf b) (x : Spec) (wx : Rd.wf x) : Det Try.prog 5 [en b, en x] [] (.bool true) [] := by
  refine det_finF mixed0 (knows_cons known_Alive29 (knows_cons known_TakeSpec (knows_cons known_r29_TakeSpec (knows_cons known_PutSpec (knows_cons known_r29_PutSpec (knows_cons known_SameB (knows_cons known_R22Same knows_nil))))))) ok_l29_CodeSpecs 1 (by simp) ?_
  simp at wb wx
  simp [-List.map_append, ic_l29_CodeSpecs, rs_l29_CodeSpecs, cAlive29, cTakeSpec, takeV, cPutSpec, putOk, smallPt, isI64, cSameB, cR22Same, vcLoose, heapsOf]
  intro h1 h2
  have h3 := specV_after ⟨b, 0⟩
  refine ⟨by omega, ⟨by omega, by omega, wx.2.2.1, wx.2.2.2.1⟩, by omega⟩
theorem det_CodeCodes (c : Cmd) (wc : Rd.wf c) (b : List (BitVec 8)) (wb : Rd.wf b) : Det Try.prog 3 [en c, en b] [] (.bool true) [] := by
  refine det_finF mixed0 (knows_cons known_Alive29 (knows_cons known_R28Few (knows_cons known_Encode (knows_cons known_r29_Encode (knows_cons known_Decode (knows_cons known_r29_Decode (knows_cons known_SameB (knows_cons known_R28Same knows_nil)))))))) ok_l29_CodeCodes 1 (by simp) ?_
  simp at wc wb
  simp [-List.map_append, ic_l29_CodeCodes, rs_l29_CodeCodes, cAlive29, cR28Few, cEncode, cDecode, encV, decV, cSameB, cCmdSame, vcLoose, heapsOf]
  refine ⟨wc.2.2.1, fun hf hb => ⟨?_, by omega, ?_⟩⟩
  · obtain ⟨k1, k2⟩ := few29 hf
    exact ⟨by omega, fun x hx => ⟨by have := k2 x hx; omega, (wc.2.2.2 x hx).2.2.1, (wc.2.2.2 x hx).2.2.2.1⟩⟩
  · obtain ⟨k1, k2⟩ := decP_small b
    exact ⟨by omega, fun x hx => by have := k2 x hx; omega⟩
end Go.Proofs.Ytoapfffakfmioaa.Sx
