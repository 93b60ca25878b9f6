/- Commands of bytes: Decode (package code, reference 29). No conditions: a kit of our own. -/
import Derived.Test.YtoapfffakfmioaaBy8
namespace Go.Proofs.Ytoapfffakfmioaa.Sx
open Go Go.RowKit
set_option linter.unusedVariables false
set_option linter.unusedSimpArgs false

/-- The command of a code's rest, and what is wrong. -/
def decR (k : Int) (l : List (BitVec 8)) : Cmd × Int :=
  if (cmdRd ⟨l, 0⟩ k).E ≠ 0 then (Cmd.zero, (cmdRd ⟨l, 0⟩ k).E) else if (cmdRd ⟨l, 0⟩ k).B ≠ [] then (Cmd.zero, 3) else if cmdErr (cmdC ⟨l, 0⟩ k) ≠ 0 then (Cmd.zero, cmdErr (cmdC ⟨l, 0⟩ k)) else (cmdC ⟨l, 0⟩ k, 0)
def decP : List (BitVec 8) → Cmd × Int
  | [] => (Cmd.zero, 4)
  | x :: l => if x.toNat < 1 ∨ 15 < x.toNat then (Cmd.zero, 14) else decR x.toNat l
def decV (b : List (BitVec 8)) : AV := .tup [en (decP b).1, en (decP b).2]
theorem closed_decV (b : List (BitVec 8)) : Closed (decV b) := closed_pair _ _
attribute [local irreducible] unvar intR intV wordR wordV manyR manyV takes takesS specR specV cmdErr cmdRd cmdC
theorem cmdC_check (r : Rdr) (k : Int) : (cmdC r k).Batch.length ≤ 1073741824 ∧ ∀ x ∈ (cmdC r k).Batch, x.After.length ≤ 1073741824 := by
  obtain ⟨h1, h2⟩ := cmdC_small r k
  exact ⟨by omega, fun x hx => by have := h2 x hx; omega⟩
theorem det_Decode (b : List (BitVec 8)) (h : b.length ≤ 1000000000) : Det Try.prog 15 [en b] [] (decV b) [] := by
  refine det_finF mixed0 (knows_cons known_Command (knows_cons known_Fail (knows_cons known_CmdCheck knows_nil))) ok_code_Decode 3 (by simp) ?_
  cases b with
  | nil => simp [ic_code_Decode, rs_code_Decode, decV, decP, Cmd.zero]
  | cons x l =>
    by_cases hx : x.toNat < 1 ∨ 15 < x.toNat
    · have e : decP (x :: l) = (Cmd.zero, 14) := by simp only [decP]; rw [if_pos hx]
      have hl : ¬ ((l.length : Int) + 1 = 0) := by omega
      have hl' : (0 : Int) < (l.length : Int) + 1 := by omega
      rcases hx with hx | hx
      · have h1 : (x.toNat : Int) < 1 := by omega
        simp [ic_code_Decode, rs_code_Decode, decV, e, Cmd.zero, hl, hl', h1]
        omega
      · have h1 : ¬ (x.toNat : Int) < 1 := by omega
        have h2 : (15 : Int) < x.toNat := by omega
        simp [ic_code_Decode, rs_code_Decode, decV, e, Cmd.zero, hl, hl', h1, h2]
        omega
    · have e : decP (x :: l) = decR x.toNat l := by simp only [decP]; rw [if_neg hx]
      have h1 : (1 : Int) ≤ x.toNat := by omega
      have h2 : (x.toNat : Int) ≤ 15 := by omega
      have h3 : ¬ (15 : Int) < x.toNat := by omega
      have h4 : ¬ (x.toNat : Int) < 1 := by omega
      have hk : okR ⟨l, 0⟩ := by simp [okR] at h ⊢; omega
      have hc := cmdC_check ⟨l, 0⟩ x.toNat
      have hl : ¬ ((l.length : Int) + 1 = 0) := by omega
      have hl' : (0 : Int) < (l.length : Int) + 1 := by omega
      have hl2 : (1 : Int) ≤ (l.length : Int) + 1 := by omega
      simp [ic_code_Decode, rs_code_Decode, decV, e, cCommand, cFail, cCmdCheck, h1, h2, h3, h4, hk, hc.1, hl, hl', hl2, vcLoose, heapsOf]
      refine ⟨by omega, ?_⟩
      unfold decR failR
      have hc2 := hc.2
      generalize cmdRd ⟨l, 0⟩ (x.toNat : Int) = rd at *
      generalize cmdC ⟨l, 0⟩ (x.toNat : Int) = c at *
      by_cases hE : rd.E = 0 <;> by_cases hB : rd.B = [] <;> by_cases hC : cmdErr c = 0 <;> simp [hE, hB, hC, Cmd.zero, List.length_pos_iff] <;> try exact hc2
def cDecode : Ctr := V1 (fun b : List (BitVec 8) => b.length ≤ 1000000000) decV
theorem known_Decode : Known Try.prog 15 cDecode := known_V1 det_Decode fun b _ => closed_decV b
end Go.Proofs.Ytoapfffakfmioaa.Sx
