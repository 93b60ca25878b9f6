/- Commands of bytes: the document's Decode (reference 29). No conditions: a kit of our own. -/
import Derived.Test.YtoapfffakfmioaaBy9
namespace Go.Proofs.Ytoapfffakfmioaa.Sx
open Go Go.RowKit
set_option linter.unusedVariables false
set_option linter.unusedSimpArgs false

attribute [local irreducible] unvar intR intV wordR wordV manyR manyV takes takesS specR specV cmdErr
theorem det_r29_Decode (b : List (BitVec 8)) (h : b.length ≤ 1000000000) : Det Try.prog 16 [en b] [] (decV b) [] := by
  refine det_finF mixed0 (knows_cons known_HasID (knows_cons known_HasBits (knows_cons known_Int29 (knows_cons known_Word29 (knows_cons known_Spec29 (knows_cons known_R28Check knows_nil)))))) ok_r29_Decode 3 (by simp) ?_
  cases b with
  | nil => simp [ic_r29_Decode, rs_r29_Decode, decV, decP, Cmd.zero]
  | cons x l =>
    have hl : ¬ ((l.length : Int) + 1 = 0) := by omega
    have hl' : (0 : Int) < (l.length : Int) + 1 := by omega
    have hl2 : (1 : Int) ≤ (l.length : Int) + 1 := by omega
    have hxl := x.isLt
    by_cases hx : x.toNat < 1 ∨ 15 < x.toNat
    · have e : decP (x :: l) = (Cmd.zero, 14) := by simp only [decP]; rw [if_pos hx]
      rcases hx with hx | hx
      · have h1 : (x.toNat : Int) < 1 := by omega
        simp [ic_r29_Decode, rs_r29_Decode, decV, e, Cmd.zero, hl, hl', h1]
        omega
      · have h1 : ¬ (x.toNat : Int) < 1 := by omega
        have h2 : (15 : Int) < x.toNat := by omega
        simp [ic_r29_Decode, rs_r29_Decode, decV, e, Cmd.zero, hl, hl', h1, h2]
        omega
    · have e : decP (x :: l) = decR x.toNat l := by simp only [decP]; rw [if_neg hx]
      have h1 : (1 : Int) ≤ x.toNat := by omega
      have h2 : (x.toNat : Int) ≤ 15 := by omega
      have h3 : ¬ (15 : Int) < x.toNat := by omega
      have h4 : ¬ (x.toNat : Int) < 1 := by omega
      have hk : okR ⟨l, 0⟩ := by simp [okR] at h ⊢; omega
      have hc := cmdC_check ⟨l, 0⟩ x.toNat
      have hx9 : x.toNat ≤ 9223372036854775807 := by omega
      simp [ic_r29_Decode, rs_r29_Decode, decV, e, cHasID, cHasBits, h1, h2, h3, h4, hl, hl', hl2, hx9]
      generalize hK : (x.toNat : Int) = k at *
      refine JoinC.by' (fun s' => s' = ⟨[(2, .ptr 0 0 0), (4, .ptr 1 0 0), (5, .ptr 2 0 0)], [.rows 4 [[.int .i64 0, .int .i64 0, .int .u64 0, .nils]], .rows 4 [[.int .i64 k, .int .i64 (if hasID k then intV ⟨l, 0⟩ else 0), .int .u64 0, .nils]], .rows 2 [Cel.c (cmdId k ⟨l, 0⟩)]]⟩) ?_ ?_
      · cases hi : hasID k <;> simp [hi, cInt29, hk, cmdId]
      rintro _ rfl
      simp [cHasBits]
      refine JoinC.by' (fun s' => s' = ⟨[(2, .ptr 0 0 0), (4, .ptr 1 0 0), (5, .ptr 2 0 0)], [.rows 4 [[.int .i64 0, .int .i64 0, .int .u64 0, .nils]], .rows 4 [[.int .i64 k, .int .i64 (if hasID k then intV ⟨l, 0⟩ else 0), .int .u64 (if hasBits k then wordV (cmdId k ⟨l, 0⟩) else 0#64).toNat, .nils]], .rows 2 [Cel.c (cmdBits k ⟨l, 0⟩)]]⟩) ?_ ?_
      · cases hi : hasBits k <;> simp [hi, cWord29, ok_cmdId hk, cmdBits]
      rintro _ rfl
      simp
      generalize hid : (if hasID k then intV ⟨l, 0⟩ else 0) = id at *
      generalize hbits : (if hasBits k then wordV (cmdId k ⟨l, 0⟩) else 0#64) = bits at *
      clear hx hxl hx9
      refine JoinC.by' (fun s' => ∃ a n N, ∃ rd : Rdr, (a = .view (rd.B.map Cel.c) ∨ a = .nils ∧ rd = ⟨[], 15⟩) ∧ okR rd ∧ takesS N rd [] = cmdT k ⟨l, 0⟩ ∧ N ≤ 64 ∧ (rd.E = 0 → n = (N : Int)) ∧ s' = ⟨[(2, .ptr 0 0 0), (4, .ptr 1 0 0), (5, .ptr 2 0 0), (6, .int .i64 n)], [.rows 4 [[.int .i64 0, .int .i64 0, .int .u64 0, .nils]], .rows 4 [[.int .i64 k, .int .i64 id, .int .u64 bits.toNat, .nils]], .rows 2 [[a, .int .i64 rd.E]]]⟩) ?_ ?_
      · by_cases h1k : k = 1
        · subst h1k
          have f1 : hasID 1 = false := by decide
          have f2 : hasBits 1 = false := by decide
          have hb : cmdBits 1 ⟨l, 0⟩ = ⟨l, 0⟩ := by simp [cmdBits, cmdId, f1, f2]
          have hcT : cmdT 1 ⟨l, 0⟩ = takeB ⟨l, 0⟩ := by simp [cmdT]
          have hm := manyV_nn ⟨l, 0⟩ 64 15
          have hm2 := manyV_le ⟨l, 0⟩ 64 15 (by decide)
          have hi := intV_E (r := ⟨l, 0⟩)
          have hin := intV_nn ⟨l, 0⟩
          rw [hb, hcT]
          by_cases hE : (intR ⟨l, 0⟩).E = 0
          · by_cases hn : 64 < intV ⟨l, 0⟩
            · have e7 : manyR ⟨l, 0⟩ 64 15 = ⟨[], 15⟩ := by simp [manyR, hn]
              simp [cInt29, hk, hE, hn]
              exact ⟨_, _, (manyV ⟨l, 0⟩ 64 15).toNat, ⟨[], 15⟩, .inr ⟨rfl, rfl⟩, by simp [okR], by unfold takeB; rw [e7], by omega, by simp, rfl, rfl, rfl⟩
            · have e7 : manyR ⟨l, 0⟩ 64 15 = intR ⟨l, 0⟩ := by simp [manyR, hn]
              have e8 : manyV ⟨l, 0⟩ 64 15 = intV ⟨l, 0⟩ := by simp [manyV, hn]
              simp [cInt29, hk, hE, hn]
              exact ⟨_, _, (manyV ⟨l, 0⟩ 64 15).toNat, intR ⟨l, 0⟩, .inl rfl, ok_intR hk, by unfold takeB; rw [e7], by omega, fun _ => by omega, rfl, rfl, hE.symm⟩
          · have e2 := hi hE
            have e7 : manyR ⟨l, 0⟩ 64 15 = intR ⟨l, 0⟩ := by simp [manyR, e2]
            simp [cInt29, hk, hE]
            exact ⟨_, _, (manyV ⟨l, 0⟩ 64 15).toNat, intR ⟨l, 0⟩, .inl rfl, ok_intR hk, by unfold takeB; rw [e7], by omega, fun h => absurd h hE, rfl, rfl, rfl⟩
        · have hcT : cmdT k ⟨l, 0⟩ = (cmdBits k ⟨l, 0⟩, []) := by simp [cmdT, h1k]
          simp [h1k]
          exact ⟨_, 0, 0, cmdBits k ⟨l, 0⟩, .inl rfl, ok_cmdBits hk, by rw [hcT]; simp [takesS], by omega, fun _ => rfl, by simp⟩
      rintro _ ⟨a, n, N, rd, ha, hrd, ht, hN, hn, rfl⟩
      simp
      refine LoopC.genR (fun b : AV × Rdr × List Spec × Nat => let a := b.2; ⟨[(2, .ptr 0 0 0), (4, .ptr 1 0 0), (5, .ptr 2 0 0), (6, .int .i64 n), (7, .int .i64 a.2.1.length)], [.rows 4 [[.int .i64 0, .int .i64 0, .int .u64 0, .nils]], .rows 4 [[.int .i64 k, .int .i64 id, .int .u64 bits.toNat, bs 3 (a.2.1.map Cel.c)]], .rows 2 [[b.1, .int .i64 a.1.E]], bob 9 (a.2.1.map Cel.c)]⟩)
        (fun b => let a := b.2; takesS a.2.2 a.1 a.2.1 = cmdT k ⟨l, 0⟩ ∧ okR a.1 ∧ a.2.1.length + a.2.2 ≤ 64 ∧ (a.1.E = 0 → n = a.2.1.length + a.2.2) ∧ (b.1 = .view (a.1.B.map Cel.c) ∨ b.1 = .nils ∧ a.1 = ⟨[], 15⟩)) (fun b => b.2.2.2) (a, rd, [], N) [0, 1, 2, 3] (by
          rcases ha with rfl | ⟨rfl, hB⟩
          · simp [atR]
          · simp [atR, hB]) ⟨ht, hrd, by simp; omega, fun hE => by have := hn hE; simp; omega, ha⟩ fun ⟨cl, ⟨B, E⟩, acc, m⟩ ⟨g1, g2, g3, g4, g5⟩ => ?_
      simp only at g1 g2 g3 g4 g5
      by_cases hE : E = 0
      · subst hE
        have g4 := g4 rfl
        have g5 : cl = .view (B.map Cel.c) := by
          rcases g5 with g5 | ⟨_, g5⟩
          · exact g5
          · simp at g5
        subst g5
        cases m with
        | zero =>
          simp [takesS] at g1
          have e3 : ¬ ((acc.length : Int) < n) := by omega
          have e1 : cmdRd ⟨l, 0⟩ k = ⟨B, 0⟩ := by simp [cmdRd, ← g1]
          have e2 : cmdC ⟨l, 0⟩ k = ⟨k, id, bits, acc⟩ := by simp [cmdC, ← g1, hid, hbits]
          rw [e2] at hc
          simp only at hc
          unfold decR
          rw [e1, e2]
          simp [e3, vcLoose, heapsOf, cCmdCheck, hc.1]
          by_cases hB : B = [] <;> by_cases hC : cmdErr ⟨k, id, bits, acc⟩ = 0 <;> simp [hB, hC, Cmd.zero, List.length_pos_iff] <;> try exact hc.2
        | succ m =>
          rw [takesS, if_neg (by simp)] at g1
          have e3 : (acc.length : Int) < n := by omega
          simp [e3, g2, vcLoose, heapsOf, cSpec29]
          exact ⟨by omega, ⟨by omega, by omega⟩, _, specR ⟨B, 0⟩, acc ++ [specV ⟨B, 0⟩], ⟨[0, 1, 2, 5], by simp [atR]⟩, m, ⟨g1, ok_specR g2, by simp; omega, fun _ => by simp; omega, .inl rfl⟩, by omega⟩
      · have e0 : takesS m ⟨B, E⟩ acc = (⟨B, E⟩, acc) := by cases m <;> simp [takesS, hE]
        rw [e0] at g1
        have e1 : cmdRd ⟨l, 0⟩ k = ⟨B, E⟩ := by simp [cmdRd, ← g1]
        unfold decR
        rw [e1]
        rcases g5 with rfl | ⟨rfl, g5⟩
        · simp [hE, Cmd.zero, vcLoose, heapsOf]
        · simp at g5
          simp [g5.1, g5.2, Cmd.zero, vcLoose, heapsOf]
theorem known_r29_Decode : Known Try.prog 16 cDecode := known_V1 det_r29_Decode fun b _ => closed_decV b
end Go.Proofs.Ytoapfffakfmioaa.Sx
