/- Reference 32: Decode; the law of Snap. No conditions: a kit of our own. -/
import Derived.Test.YtnckibgcjgeekaaGreatFnSd4
namespace Go.Proofs.YtnckibgcjgeekaaGreat.Sx
open Go Go.RowKit
set_option linter.unusedVariables false
set_option linter.unusedSimpArgs false

def cEqAis : Ctr := C2 (fun xs ys : List Ais => xs.length ≤ 9223372036854775807) fun xs ys => .bool (decide (xs = ys))
def cSameRules : Ctr := C2 (fun a b : Rul => a.Aisles.length ≤ 9223372036854775807) fun a b => .bool (decide (a = b))
theorem det_r07_Same (xs ys : List Ais) (hl : xs.length ≤ 9223372036854775807) : Det Tryz.prog 45 [en xs, en ys] [] (.bool (decide (xs = ys))) [] := by
  refine det_finF mixed0 knows_nil ok_r07_Same 1 (by simp) ?_
  simp [ic_r07_Same, rs_r07_Same]
  refine ⟨fun h e => h (by rw [e]), fun hlen => ?_⟩
  refine LoopC.scanB Ais.zero xs (fun i (_ : Unit) => ⟨[(0, .view (xs.map Cel.c)), (1, .view (ys.map Cel.c)), (5, .int .i64 i)], []⟩) (fun i _ r => xs = ys ↔ r = ys.drop i) () (by simp) (by simp) (by simp) (fun i a r b hi ha hd hG => ?_) fun b hG => ?_
  · have hi' : i < ys.length := by omega
    have hy := drop_nth Ais.zero hi'
    rw [hy] at hG
    by_cases e : a = nth ys i Ais.zero
    · simp [hi, hi', ha, vcLoose, e]
      refine ⟨by omega, ?_⟩
      rw [hG, e]; simp
    · have e3 : ¬ xs = ys := fun h => by rw [hG] at h; simp at h; exact e h.1
      simp [hi, hi', ha, vcLoose, e3]
      rw [ext_Ais, ext_Pt, ext_Pt] at e
      grind
  · simp
    rw [hG, List.drop_of_length_le (by omega)]
theorem known_r07_Same : Known Tryz.prog 45 cEqAis := known_C2 (fun l n h => det_r07_Same l n h) fun l n => flat_bool _
theorem det_r22_SameRules (a b : Rul) (hl : a.Aisles.length ≤ 9223372036854775807) : Det Tryz.prog 12 [en a, en b] [] (.bool (decide (a = b))) [] := by
  refine det_finF mixed0 (knows_cons known_r07_Same knows_nil) ok_r22_SameRules 1 (by simp) ?_
  simp [ic_r22_SameRules, rs_r22_SameRules, cEqAis, hl, vcLoose, heapsOf]
  rw [Bool.eq_iff_iff]
  simp [ext_Rul, and_assoc]
theorem known_r22_SameRules : Known Tryz.prog 12 cSameRules := known_C2 (fun a b h => det_r22_SameRules a b h) fun a b => flat_bool _

theorem known_snap_Decode : Known Tryz.prog 9 (V1 (fun b : List (BitVec 8) => b.length ≤ 1000000000) decV32) := known_V1 det_snap_Decode fun b _ => closed_dec b
attribute [local irreducible] lstG intR intV wordR wordV manyR manyV specR specV pointR pointV shpErr
set_option maxHeartbeats 4000000 in
set_option maxRecDepth 20000 in
theorem det_r32_Decode (b : List (BitVec 8)) (h : b.length ≤ 1000000000) : Det Tryz.prog 10 [en b] [] (decV32 b) [] := by
  refine det_finF mixed0 (knows_cons known_Int29 (knows_cons known_r32_aisles (knows_cons known_r32_tasks (knows_cons known_r32_handful (knows_cons known_r32_leases (knows_cons known_r32_locks (knows_cons known_r30_Shape knows_nil))))))) ok_r32_Decode 3 (by simp) ?_
  have h0 : okR ⟨b, 0⟩ := h
  have h1 := ok_q1 h0
  have h2 := ok_q2 h0
  have h3 := ok_q3 h0
  have h4 := ok_q4 h0
  have h5 := ok_q5 h0
  have h6 := ok_q6 h0
  have h7 := ok_q7 h0
  have eR : (⟨intV ⟨b, 0⟩, intV (intR ⟨b, 0⟩), intV (intR (intR ⟨b, 0⟩)), intV (intR (intR (intR ⟨b, 0⟩))), intV (intR (intR (intR (intR ⟨b, 0⟩)))), intV (intR (intR (intR (intR (intR ⟨b, 0⟩))))), intV (intR (intR (intR (intR (intR (intR ⟨b, 0⟩)))))), (lstG oneA (q1 b)).2⟩ : Rul) = decRul b := rfl
  have eS : (⟨intV (q2 b), intV (intR (q2 b)), intV (intR (intR (q2 b))), (lstG oneT (q3 b)).2, (lstG oneH (q4 b)).2, (lstG oneH (q5 b)).2, (lstG oneL (q6 b)).2, (lstG oneK (q7 b)).2⟩ : Stt) = decStt b := rfl
  have hs := okS_dec b
  have hl : (lstG oneA (q1 b)).2.length ≤ 1073741824 := Nat.le_trans (lstG_len oneA (q1 b)) (by decide)
  have w1 := ok_intR h0
  have w2 := ok_intR w1
  have w3 := ok_intR w2
  have w4 := ok_intR w3
  have w5 := ok_intR w4
  have w6 := ok_intR w5
  have v1 := ok_intR h2
  have v2 := ok_intR v1
  have e1 : intR (intR (intR (intR (intR (intR (intR ⟨b, 0⟩)))))) = q1 b := rfl
  have e2 : (lstG oneA (q1 b)).1 = q2 b := rfl
  have e3 : intR (intR (intR (q2 b))) = q3 b := rfl
  have e4 : (lstG oneT (q3 b)).1 = q4 b := rfl
  have e5 : (lstG oneH (q4 b)).1 = q5 b := rfl
  have e6 : (lstG oneH (q5 b)).1 = q6 b := rfl
  have e7 : (lstG oneL (q6 b)).1 = q7 b := rfl
  have e8 : (lstG oneK (q7 b)).1 = q8 b := rfl
  simp [ic_r32_Decode, rs_r32_Decode, cInt29, cLst32, cShape, h0, h1, h2, h3, h4, h5, h6, h7, w1, w2, w3, w4, w5, w6, v1, v2, e1, e2, e3, e4, e5, e6, e7, e8, vcLoose, heapsOf]
  rw [eR, eS]
  have ed : decV32 b = if decE b ≠ 0 then .tup [en Rul.zero, en Stt.zero, en (decE b)] else .tup [en (decRul b), en (decStt b), en (0 : Int)] := by
    unfold decV32 decR32 decS32
    by_cases he : decE b = 0 <;> simp [he]
  have dE : decE b = if (q8 b).E ≠ 0 then (q8 b).E else if (q8 b).B ≠ [] then 3 else shpErr (decRul b) (decStt b) := rfl
  by_cases hE : (q8 b).E = 0
  · by_cases hB : (q8 b).B = []
    · rw [if_neg (by simpa using hE), if_neg (by simpa using hB)] at dE
      by_cases hS : shpErr (decRul b) (decStt b) = 0
      · rw [hS] at dE
        rw [if_neg (by simp [dE])] at ed
        simp [hE, hB, hS, hs, hl, ed, failR]
        exact ⟨⟨rfl, rfl, rfl, rfl, rfl, rfl, rfl, rfl⟩, rfl, rfl, rfl, rfl, rfl, rfl, rfl, rfl⟩
      · rw [if_pos (by rw [dE]; exact hS), dE] at ed
        simp [hE, hB, hS, hs, hl, ed, failR, Rul.zero, Stt.zero]
    · rw [if_neg (by simpa using hE), if_pos hB] at dE
      rw [if_pos (by rw [dE]; decide), dE] at ed
      have hp : 0 < (q8 b).B.length := List.length_pos_iff.2 hB
      simp [hE, hB, hp, hs, hl, ed, failR, Rul.zero, Stt.zero]
  · rw [if_pos hE] at dE
    rw [if_pos (by rw [dE]; exact hE), dE] at ed
    simp [hE, ed, failR, Rul.zero, Stt.zero]

def cDecode32 : Ctr := V1 (fun b : List (BitVec 8) => b.length ≤ 1000000000) decV32
theorem known_r32_Decode : Known Tryz.prog 10 cDecode32 := known_V1 det_r32_Decode fun b _ => closed_dec b
/-! ### what must come at any rate -/
def alR : Rul := ⟨2, 1, 1, 3, 2, 0, 0, []⟩
def alB : List (BitVec 8) := [2, 1, 1, 3, 2, 0, 0, 0, 0, 0, 0, 0, 0, 0, 0, 0]
theorem al_W : encW alR Stt.zero = [2, 1, 1, 3, 2, 0, 0, 0, 0, 0, 0, 0, 0, 0, 0, 0] := by kernel_rfl
theorem al_vars : vars [2, 1, 1, 3, 2, 0, 0, 0, 0, 0, 0, 0, 0, 0, 0, 0] = alB := by
  have e0 : varB 0 = [0] := varB_lt (by decide)
  have e1 : varB 1 = [1] := varB_lt (by decide)
  have e2 : varB 2 = [2] := varB_lt (by decide)
  have e3 : varB 3 = [3] := varB_lt (by decide)
  simp [vars, e0, e1, e2, e3, alB]
theorem al_shp : shpErr alR Stt.zero = 0 := by kernel_rfl
theorem al_enc : encV32 alR Stt.zero = .tup [en alB, en (0 : Int)] := by
  have e : putB [] [2, 1, 1, 3, 2, 0, 0, 0, 0, 0, 0, 0, 0, 0, 0, 0] = alB := by unfold putB; rw [al_vars]; rfl
  unfold encV32 encP
  rw [al_shp, al_W, e]
  rfl
theorem al_E : decE alB = 0 := by kernel_rfl
theorem al_R : decR32 alB = alR := by kernel_rfl
theorem al_S : decS32 alB = Stt.zero := by kernel_rfl
theorem al_E1 : decE [1] = 4 := by kernel_rfl
theorem okS_zero : okS Stt.zero := ⟨by decide, by decide, by decide, by decide, by decide, fun x h => by simp [Stt.zero] at h, fun x h => by simp [Stt.zero] at h, fun x h => by simp [Stt.zero] at h⟩
theorem det_l32_alive : Det Tryz.prog 6 [] [] (.bool true) [] := by
  refine det_finF mixed0 (knows_cons known_snap_Encode (knows_cons known_snap_Decode (knows_cons known_r22_SameRules (knows_cons known_r30_Same knows_nil)))) ok_l32_alive 1 (by simp) ?_
  have e1 : (⟨2, 1, 1, 3, 2, 0, 0, []⟩ : Rul) = alR := rfl
  have e2 : (⟨0, 0, 0, [], [], [], [], []⟩ : Stt) = Stt.zero := rfl
  have e3 : alB.length = 16 := rfl
  have e4 := okS_zero
  simp [-List.map_append, ic_l32_alive, rs_l32_alive, cEncode32, decV32, cSameRules, cStateSame, e1, e2, al_enc, al_E, al_R, al_S, al_E1, e3, e4, vcLoose, heapsOf]
  exact ⟨by decide, by decide, al_E1⟩
def cAlive32 : Ctr := C0 (.bool true)
theorem known_Alive32 : Known Tryz.prog 6 cAlive32 := known_C0 det_l32_alive (.bool true)
theorem okS_S32 (b : List (BitVec 8)) : okS (decS32 b) := by
  unfold decS32; split
  · exact okS_zero
  · exact okS_dec b
theorem decR32_len (b : List (BitVec 8)) : (decR32 b).Aisles.length ≤ 64 := by
  unfold decR32; split
  · simp [Rul.zero]
  · exact decRul_len b
set_option maxHeartbeats 1000000 in
theorem det_SnapCodes (r : Rul) (wr : Rd.wf r) (s : Stt) (ws : Rd.wf s) (b : List (BitVec 8)) (wb : Rd.wf b) : Det Tryz.prog 3 [en r, en s, en b] [] (.bool true) [] := by
  refine det_finF mixed0 (knows_cons known_Alive32 (knows_cons known_r30_Few (knows_cons known_snap_Encode (knows_cons known_r32_Encode (knows_cons known_snap_Decode (knows_cons known_r32_Decode (knows_cons known_SameB (knows_cons known_r22_SameRules (knows_cons known_r30_Same knows_nil))))))))) ok_l32_SnapCodes 1 (by simp) ?_
  simp at wr ws wb
  have h1 := okS_S32 b
  have h2 := decR32_len b
  have h3 : (decR32 b).Aisles.length ≤ 9223372036854775807 := by omega
  simp [-List.map_append, ic_l32_SnapCodes, rs_l32_SnapCodes, cAlive32, cr30_Few, cEncode32, encV32, decV32, cDecode32, cSameB, cSameRules, cStateSame, h1, h3, vcLoose, heapsOf]
  refine ⟨fun _ => ?_, fun k1 k2 k3 => ⟨⟨few_ok k2, by omega⟩, by omega⟩⟩
  trace_state
  grind
end Go.Proofs.YtnckibgcjgeekaaGreat.Sx
