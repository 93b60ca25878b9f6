/- Commands as bytes, and back (package code, reference 29). No conditions: a kit of our own. -/
import Derived.Test.YtoapfffakfmioaaBy6
namespace Go.Proofs.Ytoapfffakfmioaa.Sx
open Go Go.RowKit
set_option linter.unusedVariables false
set_option linter.unusedSimpArgs false

theorem det_fields (k : Int) (h1 : 1 ≤ k) (h2 : k ≤ 15) : Det Try.prog 61 [en k] [] (.tup [en (hasID k), en (hasBits k), en (decide (k = 1))]) [] := by
  refine det_finF mixed0 knows_nil ok_code_fields 2 (by simp) ?_
  simp [ic_code_fields, rs_code_fields]
  have hk : k = 1 ∨ k = 2 ∨ k = 3 ∨ k = 4 ∨ k = 5 ∨ k = 6 ∨ k = 7 ∨ k = 8 ∨ k = 9 ∨ k = 10 ∨ k = 11 ∨ k = 12 ∨ k = 13 ∨ k = 14 ∨ k = 15 := by omega
  clear h1 h2
  rcases hk with rfl | rfl | rfl | rfl | rfl | rfl | rfl | rfl | rfl | rfl | rfl | rfl | rfl | rfl | rfl <;> simp [hasID, hasBits]
def cFields : Ctr := V1 (fun k : Int => 1 ≤ k ∧ k ≤ 15) fun k => .tup [en (hasID k), en (hasBits k), en (decide (k = 1))]
theorem known_Fields : Known Try.prog 61 cFields := known_V1 (fun k h => det_fields k h.1 h.2) fun k _ => closed_triple _ _ _
def kb (k : Int) : BitVec 8 := BitVec.ofInt 8 k
/-- A command's bytes. -/
def specsB (l : List Spec) : List (BitVec 8) := l.flatMap fun x => vars (specNums x)
def cmdB (c : Cmd) : List (BitVec 8) := kb c.Kind :: ((if hasID c.Kind then varB (u64 c.ID).toNat else []) ++ ((if hasBits c.Kind then varB c.Bits.toNat else []) ++ if c.Kind = 1 then varB (u64 c.Batch.length).toNat ++ specsB c.Batch else []))
def encB (c : Cmd) : List (BitVec 8) := if cmdErr c ≠ 0 then [] else cmdB c
def encV (c : Cmd) : AV := .tup [en (encB c), en (cmdErr c)]
def okSpec (x : Spec) : Prop := x.After.length ≤ 100 ∧ smallPt x.From ∧ smallPt x.To
def okCmd (c : Cmd) : Prop := c.Batch.length ≤ 1000 ∧ ∀ x ∈ c.Batch, okSpec x
theorem specsB_nil : specsB [] = [] := rfl
theorem specsB_cons (x : Spec) (l : List Spec) : specsB (x :: l) = vars (specNums x) ++ specsB l := rfl
theorem specNums_len (x : Spec) : (vars (specNums x)).length ≤ 10 * (9 + x.After.length) := by
  have := vars_len (specNums x)
  have e : (specNums x).length = 9 + x.After.length := by simp [specNums]; omega
  omega
theorem wrap_u8' (n : Int) : IntKind.u8.wrap n = ((kb n).toNat : Int) := by
  rw [wrap_u8, kb, BitVec.toNat_ofInt]
  omega
theorem cmdErr_kind {c : Cmd} (h : cmdErr c = 0) : 1 ≤ c.Kind ∧ c.Kind ≤ 15 := by
  rw [cmdErr_ref] at h
  by_cases hk : c.Kind < 1 ∨ 15 < c.Kind
  · rw [if_pos hk] at h; simp at h
  · omega
theorem four (k : Int) : (hasID k = false ∧ hasBits k = false ∧ k = 1) ∨ (hasID k = true ∧ hasBits k = true ∧ k ≠ 1) ∨ (hasID k = false ∧ hasBits k = false ∧ k ≠ 1) ∨ (hasID k = true ∧ hasBits k = false ∧ k ≠ 1) := by
  simp [hasID, hasBits]
  omega
theorem ok_check {c : Cmd} (h : okCmd c) : c.Batch.length ≤ 1073741824 ∧ ∀ x ∈ c.Batch, x.After.length ≤ 1073741824 := by
  obtain ⟨h1, h2⟩ := h
  exact ⟨by omega, fun x hx => by have := (h2 x hx).1; omega⟩
theorem det_Encode (c : Cmd) (h : okCmd c) : Det Try.prog 13 [en c] [] (encV c) [] := by
  refine det_finF mixed0 (knows_cons known_CmdCheck (knows_cons known_Fields (knows_cons known_Put (knows_cons known_PutSpec knows_nil)))) ok_code_Encode 2 (by simp) ?_
  have hc := ok_check h
  by_cases he : cmdErr c = 0
  · have hk := cmdErr_kind he
    have hb : encB c = cmdB c := by simp [encB, he]
    rcases four c.Kind with ⟨f1, f2, f3⟩ | ⟨f1, f2, f3⟩ | ⟨f1, f2, f3⟩ | ⟨f1, f2, f3⟩
    · obtain ⟨K, ID, Bits, Batch⟩ := c
      simp only at f3 f1 f2
      subst f3
      simp [-List.map_append, ic_code_Encode, rs_code_Encode, cCmdCheck, cFields, cPut, cPutSpec, encV, hc, he, hk, f1, f2, wrap_u8', wrap_u64', hb]
      obtain ⟨h1, h2⟩ := h
      simp only at h1 h2
      refine ⟨hc.2, ?_⟩
      have hl := vars_len [u64 (Batch.length : Int)]
      simp only [List.length_cons, List.length_nil] at hl
      have hs : cmdB ⟨1, ID, Bits, Batch⟩ = (kb 1 :: vars [u64 (Batch.length : Int)]) ++ specsB Batch := by simp [cmdB, f1, f2, vars_cons, vars_nil]
      refine LoopC.scanR Spec.zero Batch (fun i (acc : List (BitVec 8)) => ⟨[(8, .view (acc.map Cel.c)), (49, .view (Batch.map Cel.c)), (50, .int .i64 Batch.length), (51, .int .i64 i)], []⟩) (fun i acc r => cmdB ⟨1, ID, Bits, Batch⟩ = acc ++ specsB r ∧ (∀ x ∈ r, okSpec x) ∧ acc.length + 2000 * r.length ≤ 3000000) (kb 1 :: vars [u64 (Batch.length : Int)]) [] ?_ ⟨hs, h2, by simp; omega⟩ (fun i a r acc hi ha hd ⟨g1, g2, g3⟩ => ?_) fun acc ⟨g1, g2, g3⟩ => ?_
      · simp [-List.map_append, atR]
        exact closed_viewc (kb 1 :: vars [u64 (Batch.length : Int)])
      · simp [specsB_cons] at g1 g2 g3
        obtain ⟨⟨k1, k2, k3⟩, g2⟩ := g2
        have hv := specNums_len a
        simp [-List.map_append, hi, ha, vcLoose, cPutSpec]
        exact ⟨⟨by omega, by omega, k2, k3⟩, ⟨by omega, by omega⟩, acc ++ vars (specNums a), ⟨[], by simp [-List.map_append, atR, closed_viewc]⟩, by simpa using g1, g2, by simp; omega⟩
      · simp [specsB_nil] at g1
        rw [g1]
        simp [-List.map_append, vcLoose, closed_viewc]
    · simp [-List.map_append, ic_code_Encode, rs_code_Encode, cCmdCheck, cFields, cPut, cPutSpec, encV, hc, he, hk, f1, f2, f3, wrap_u8', wrap_u64', hb]
      have hl := vars_len [u64 c.ID]
      simp only [List.length_cons, List.length_nil] at hl
      have e : cmdB c = kb c.Kind :: (vars [u64 c.ID] ++ vars [c.Bits]) := by simp [cmdB, f1, f2, f3, vars_cons, vars_nil]
      rw [e]
      exact ⟨hc.2, by omega, closed_viewc (kb c.Kind :: (vars [u64 c.ID] ++ vars [c.Bits])), rfl⟩
    · simp [-List.map_append, ic_code_Encode, rs_code_Encode, cCmdCheck, cFields, cPut, cPutSpec, encV, hc, he, hk, f1, f2, f3, wrap_u8', wrap_u64', hb]
      have e : cmdB c = [kb c.Kind] := by simp [cmdB, f1, f2, f3]
      rw [e]
      exact ⟨hc.2, closed_viewc [kb c.Kind], rfl⟩
    · simp [-List.map_append, ic_code_Encode, rs_code_Encode, cCmdCheck, cFields, cPut, cPutSpec, encV, hc, he, hk, f1, f2, f3, wrap_u8', wrap_u64', hb]
      have e : cmdB c = kb c.Kind :: vars [u64 c.ID] := by simp [cmdB, f1, f2, f3, vars_cons, vars_nil]
      rw [e]
      exact ⟨hc.2, closed_viewc (kb c.Kind :: vars [u64 c.ID]), rfl⟩
  · have hb : encB c = [] := by simp [encB, he]
    simp [-List.map_append, ic_code_Encode, rs_code_Encode, cCmdCheck, cFields, cPut, cPutSpec, encV, hc, he, hb]
    exact hc.2
theorem det_r29_Encode (c : Cmd) (h : okCmd c) : Det Try.prog 14 [en c] [] (encV c) [] := by
  refine det_finF mixed0 (knows_cons known_R28Check (knows_cons known_HasID (knows_cons known_HasBits (knows_cons known_r08_Var (knows_cons known_r29_PutSpec knows_nil))))) ok_r29_Encode 2 (by simp) ?_
  have hc := ok_check h
  by_cases he : cmdErr c = 0
  · have hk := cmdErr_kind he
    have hb : encB c = cmdB c := by simp [encB, he]
    rcases four c.Kind with ⟨f1, f2, f3⟩ | ⟨f1, f2, f3⟩ | ⟨f1, f2, f3⟩ | ⟨f1, f2, f3⟩
    · obtain ⟨K, ID, Bits, Batch⟩ := c
      simp only at f3 f1 f2
      subst f3
      simp [-List.map_append, ic_r29_Encode, rs_r29_Encode, cCmdCheck, cHasID, cHasBits, cVar, cPutSpec, encV, hc, he, hk, f1, f2, wrap_u8', wrap_u64', hb]
      obtain ⟨h1, h2⟩ := h
      simp only at h1 h2
      refine ⟨hc.2, ?_⟩
      have hl := varB_le (u64 (Batch.length : Int))
      have hs : cmdB ⟨1, ID, Bits, Batch⟩ = (kb 1 :: varB (u64 (Batch.length : Int)).toNat) ++ specsB Batch := by simp [cmdB, f1, f2]
      refine LoopC.scanR Spec.zero Batch (fun i (acc : List (BitVec 8)) => ⟨[(1, .ptr 0 0 0), (5, .view (acc.map Cel.c)), (6, .int .i64 i)], [.rows 4 [Cel.c (⟨1, ID, Bits, Batch⟩ : Cmd)]]⟩) (fun i acc r => cmdB ⟨1, ID, Bits, Batch⟩ = acc ++ specsB r ∧ (∀ x ∈ r, okSpec x) ∧ acc.length + 2000 * r.length ≤ 3000000) (kb 1 :: varB (u64 (Batch.length : Int)).toNat) [0] ?_ ⟨hs, h2, by simp; omega⟩ (fun i a r acc hi ha hd ⟨g1, g2, g3⟩ => ?_) fun acc ⟨g1, g2, g3⟩ => ?_
      · simp [-List.map_append, atR]
        exact closed_viewc (kb 1 :: varB (u64 (Batch.length : Int)).toNat)
      · simp [specsB_cons] at g1 g2 g3
        obtain ⟨⟨k1, k2, k3⟩, g2⟩ := g2
        have hv := specNums_len a
        simp [-List.map_append, hi, ha, vcLoose, cPutSpec]
        exact ⟨⟨by omega, by omega, k2, k3⟩, ⟨by omega, by omega⟩, acc ++ vars (specNums a), ⟨[0], by simp [-List.map_append, atR, closed_viewc]⟩, by simpa using g1, g2, by simp; omega⟩
      · simp [specsB_nil] at g1
        rw [g1]
        simp [-List.map_append, vcLoose, closed_viewc]
    · simp [-List.map_append, ic_r29_Encode, rs_r29_Encode, cCmdCheck, cHasID, cHasBits, cVar, cPutSpec, encV, hc, he, hk, f1, f2, f3, wrap_u8', wrap_u64', hb]
      have hl := varB_le (u64 c.ID)
      have e : cmdB c = kb c.Kind :: (varB (u64 c.ID).toNat ++ varB c.Bits.toNat) := by simp [cmdB, f1, f2, f3]
      rw [e]
      exact ⟨hc.2, by omega, closed_viewc (kb c.Kind :: (varB (u64 c.ID).toNat ++ varB c.Bits.toNat)), rfl⟩
    · simp [-List.map_append, ic_r29_Encode, rs_r29_Encode, cCmdCheck, cHasID, cHasBits, cVar, cPutSpec, encV, hc, he, hk, f1, f2, f3, wrap_u8', wrap_u64', hb]
      have e : cmdB c = [kb c.Kind] := by simp [cmdB, f1, f2, f3]
      rw [e]
      exact ⟨hc.2, closed_viewc [kb c.Kind], rfl⟩
    · simp [-List.map_append, ic_r29_Encode, rs_r29_Encode, cCmdCheck, cHasID, cHasBits, cVar, cPutSpec, encV, hc, he, hk, f1, f2, f3, wrap_u8', wrap_u64', hb]
      have e : cmdB c = kb c.Kind :: varB (u64 c.ID).toNat := by simp [cmdB, f1, f2, f3]
      rw [e]
      exact ⟨hc.2, closed_viewc (kb c.Kind :: varB (u64 c.ID).toNat), rfl⟩
  · have hb : encB c = [] := by simp [encB, he]
    simp [-List.map_append, ic_r29_Encode, rs_r29_Encode, cCmdCheck, cHasID, cHasBits, cVar, cPutSpec, encV, hc, he, hb]
    exact hc.2
theorem closed_encV (c : Cmd) : Closed (encV c) := closed_pair _ _
def cEncode : Ctr := V1 okCmd encV
theorem known_Encode : Known Try.prog 13 cEncode := known_V1 det_Encode fun c _ => closed_encV c
theorem known_r29_Encode : Known Try.prog 14 cEncode := known_V1 det_r29_Encode fun c _ => closed_encV c
end Go.Proofs.Ytoapfffakfmioaa.Sx
