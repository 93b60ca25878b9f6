/- Readers of bytes (package code, reference 29): numbers. No conditions: a kit of our own. -/
import Derived.Test.YtnckibgcjgeekaaGreatBy4
import Derived.Test.YtnckibgcjgeekaaGreatTy9
namespace Go.Proofs.YtnckibgcjgeekaaGreat.Sx
open Go Go.RowKit
set_option linter.unusedVariables false
set_option linter.unusedSimpArgs false

@[simp] theorem n_Rdr : Cel.n Rdr = 2 := rfl
def failR (r : Rdr) (e : Int) : Rdr := if r.E = 0 then ⟨[], e⟩ else r
def wordR (r : Rdr) : Rdr := if r.E ≠ 0 then r else if (unvar r.B).2.2 ≠ 0 then ⟨[], (unvar r.B).2.2⟩ else ⟨(unvar r.B).2.1, 0⟩
def wordV (r : Rdr) : BitVec 64 := if r.E ≠ 0 then 0#64 else if (unvar r.B).2.2 ≠ 0 then 0#64 else (unvar r.B).1
def intR (r : Rdr) : Rdr := if 4294967295 < (wordV r).toNat then ⟨[], 2⟩ else wordR r
def intV (r : Rdr) : Int := if 4294967295 < (wordV r).toNat then 0 else (wordV r).toNat
def manyR (r : Rdr) (m e : Int) : Rdr := if m < intV r then ⟨[], e⟩ else intR r
def manyV (r : Rdr) (m e : Int) : Int := if m < intV r then 0 else intV r
def zigV (r : Rdr) : Int := unzig (u64 (intV r))
def okR (r : Rdr) : Prop := r.B.length ≤ 1000000000

theorem unv_len : ∀ (b : List (BitVec 8)) (i w : Nat), (unv i w b).2.1.length ≤ b.length
  | [], i, w => by simp [unv]
  | x :: r, i, w => by
    have := unv_len r (i + 1) (w + 2 ^ (7 * i) * (x.toNat - 128))
    unfold unv
    split
    · simp
    · split
      · simp
      · simp; omega
theorem ok_wordR {r : Rdr} (h : okR r) : okR (wordR r) := by
  have := unv_len r.B 0 0
  unfold okR at h ⊢
  unfold wordR unvar
  split
  · exact h
  · split
    · simp
    · simp; omega
theorem ok_intR {r : Rdr} (h : okR r) : okR (intR r) := by
  unfold intR; split
  · simp [okR]
  · exact ok_wordR h
theorem ok_manyR {r : Rdr} {m e : Int} (h : okR r) : okR (manyR r m e) := by
  unfold manyR; split
  · simp [okR]
  · exact ok_intR h
theorem wordV_E {r : Rdr} (h : (wordR r).E ≠ 0) : wordV r = 0#64 := by
  unfold wordR at h; unfold wordV
  split
  · rfl
  · rename_i h1
    rw [if_neg h1] at h
    split
    · rfl
    · rename_i h2
      rw [if_neg h2] at h
      exact absurd rfl h
theorem intV_E {r : Rdr} (h : (intR r).E ≠ 0) : intV r = 0 := by
  unfold intR at h; unfold intV
  split
  · rfl
  · rename_i h1
    rw [if_neg h1] at h
    rw [wordV_E h]; rfl
theorem failR_word {r : Rdr} {e : Int} (h : 0 < (wordV r).toNat) : failR (wordR r) e = ⟨[], e⟩ := by
  unfold failR
  split
  · rfl
  · rename_i h1
    rw [wordV_E h1] at h
    exact absurd h (by simp)
theorem intV_nn (r : Rdr) : 0 ≤ intV r := by unfold intV; split <;> omega
theorem intV_le (r : Rdr) : intV r ≤ 4294967295 := by unfold intV; split <;> omega
theorem failR_int {r : Rdr} {e : Int} (h : 0 < intV r) : failR (intR r) e = ⟨[], e⟩ := by
  unfold failR
  split
  · rfl
  · rename_i h1
    rw [intV_E h1] at h
    exact absurd h (by decide)

theorem det_fail (r : Rdr) (e : Int) : Det Tryz.prog 155 [.ptr 0 0 0, en e] [.rows (Cel.n Rdr) [Cel.c r]] (.tup []) [.rows (Cel.n Rdr) [Cel.c (failR r e)]] := by
  refine det_finM mixed0 knows_nil ok_code_reader_fail 1 (by simp) ?_
  simp [ic_code_reader_fail, rs_code_reader_fail]
  unfold failR
  refine ⟨fun h => ?_, fun h => ?_⟩
  · rw [if_pos h]
  · rw [if_neg h]
def cFail : Ctr := M1 (fun (r : Rdr) (e : Int) => True) failR fun _ _ => .tup []
theorem known_Fail : Known Tryz.prog 155 cFail := known_M1 (fun r e _ => det_fail r e) fun r e _ => .tup rfl fun i a b h => by simp at h
theorem det_word (r : Rdr) (h : okR r) : Det Tryz.prog 151 [.ptr 0 0 0] [.rows (Cel.n Rdr) [Cel.c r]] (en (wordV r)) [.rows (Cel.n Rdr) [Cel.c (wordR r)]] := by
  refine det_finM mixed0 (knows_cons known_Unvar (knows_cons known_Fail knows_nil)) ok_code_reader_word 1 (by simp) ?_
  simp [ic_code_reader_word, rs_code_reader_word, cUnvar, cFail, unvV]
  unfold wordV wordR failR
  have h' : r.B.length ≤ 1000000000 := h
  by_cases e : r.E = 0 <;> by_cases e2 : (unvar r.B).2.2 = 0 <;> simp [e, e2, h']
def cWord : Ctr := M0 okR wordR fun r => en (wordV r)
theorem known_Word : Known Tryz.prog 151 cWord := known_M0 (fun r h => det_word r h) fun r _ => closed_en _
theorem det_int (r : Rdr) (h : okR r) : Det Tryz.prog 150 [.ptr 0 0 0] [.rows (Cel.n Rdr) [Cel.c r]] (en (intV r)) [.rows (Cel.n Rdr) [Cel.c (intR r)]] := by
  refine det_finM mixed0 (knows_cons known_Word (knows_cons known_Fail knows_nil)) ok_code_reader_int 1 (by simp) ?_
  simp [ic_code_reader_int, rs_code_reader_int, cWord, cFail]
  refine ⟨h, fun e => ⟨?_, ?_⟩, fun e => ⟨?_, ?_⟩⟩
  · unfold intV; rw [if_pos e]
  · unfold intR; rw [if_pos e, failR_word (by omega)]
  · unfold intV; rw [if_neg (by omega)]
    exact wrap_i64 _ (by unfold isI64; omega)
  · unfold intR; rw [if_neg (by omega)]
def cInt : Ctr := M0 okR intR fun r => en (intV r)
theorem known_Int : Known Tryz.prog 150 cInt := known_M0 (fun r h => det_int r h) fun r _ => closed_en _
theorem det_many (r : Rdr) (m e : Int) (h : okR r) (hm : 0 ≤ m) : Det Tryz.prog 153 [.ptr 0 0 0, en m, en e] [.rows (Cel.n Rdr) [Cel.c r]] (en (manyV r m e)) [.rows (Cel.n Rdr) [Cel.c (manyR r m e)]] := by
  refine det_finM mixed0 (knows_cons known_Int (knows_cons known_Fail knows_nil)) ok_code_reader_many 1 (by simp) ?_
  simp [ic_code_reader_many, rs_code_reader_many, cInt, cFail]
  refine ⟨h, fun e => ⟨?_, ?_⟩, fun e => ⟨?_, ?_⟩⟩
  · unfold manyV; rw [if_pos e]
  · unfold manyR; rw [if_pos e, failR_int (by omega)]
  · unfold manyV; rw [if_neg (by omega)]
  · unfold manyR; rw [if_neg (by omega)]
def cMny : Ctr := M2 (fun (r : Rdr) (m e : Int) => okR r ∧ 0 ≤ m) manyR fun r m e => en (manyV r m e)
theorem known_Many : Known Tryz.prog 153 cMny := known_M2 (fun r m e h => det_many r m e h.1 h.2) fun r _ _ _ => closed_en _
theorem det_zig (r : Rdr) (h : okR r) : Det Tryz.prog 152 [.ptr 0 0 0] [.rows (Cel.n Rdr) [Cel.c r]] (en (zigV r)) [.rows (Cel.n Rdr) [Cel.c (intR r)]] := by
  refine det_finM mixed0 (knows_cons known_Int (knows_cons known_Unzig knows_nil)) ok_code_reader_zig 1 (by simp) ?_
  simp [ic_code_reader_zig, rs_code_reader_zig, cInt, cUnzig, wrap_u64']
  exact ⟨h, rfl⟩
def cZigR : Ctr := M0 okR intR fun r => en (zigV r)
theorem known_ZigR : Known Tryz.prog 152 cZigR := known_M0 (fun r h => det_zig r h) fun r _ => closed_en _

/-! ### the document's -/
theorem det_r29_Word (r : Rdr) (h : okR r) : Det Tryz.prog 72 [en r] [] (.tup [en (wordR r), en (wordV r)]) [] := by
  refine det_finF mixed0 (knows_cons known_r08_Unvar knows_nil) ok_r29_Word 3 (by simp) ?_
  simp [ic_r29_Word, rs_r29_Word, cUnvar, unvV]
  have h' : r.B.length ≤ 1000000000 := h
  unfold wordR wordV
  by_cases e : r.E = 0 <;> by_cases e2 : (unvar r.B).2.2 = 0 <;> simp [e, e2, h']
def cWord29 : Ctr := V1 okR fun r => .tup [en (wordR r), en (wordV r)]
theorem closed_pair {α β : Type} [Cel α] [Cel β] (x : α) (y : β) : Closed (.tup [en x, en y]) := by
  refine .tup rfl fun i a b h1 h2 => ?_
  rw [h1] at h2; cases h2
  have := List.mem_of_getElem? h1
  simp at this
  rcases this with rfl | rfl <;> exact closed_en _
theorem known_Word29 : Known Tryz.prog 72 cWord29 := known_V1 (fun r h => det_r29_Word r h) fun r _ => closed_pair _ _
theorem det_r29_Int (r : Rdr) (h : okR r) : Det Tryz.prog 39 [en r] [] (.tup [en (intR r), en (intV r)]) [] := by
  refine det_finF mixed0 (knows_cons known_Word29 knows_nil) ok_r29_Int 3 (by simp) ?_
  simp [ic_r29_Int, rs_r29_Int, cWord29]
  refine ⟨h, fun e1 e2 => ?_, fun e => ?_⟩
  · unfold intR intV; simp [e2]
  · have e2 : ¬ 4294967295 < (wordV r).toNat := fun hh => by
      by_cases e1 : (wordR r).E = 0
      · have := e e1; omega
      · rw [wordV_E e1] at hh; simp at hh
    unfold intR intV
    simp only [e2, if_false]
    exact ⟨⟨by trivial, by trivial⟩, wrap_i64 _ (by unfold isI64; omega)⟩
def cInt29 : Ctr := V1 okR fun r => .tup [en (intR r), en (intV r)]
theorem known_Int29 : Known Tryz.prog 39 cInt29 := known_V1 (fun r h => det_r29_Int r h) fun r _ => closed_pair _ _
def pointR (r : Rdr) : Rdr := intR (intR r)
def pointV (r : Rdr) : Pt := ⟨zigV r, zigV (intR r)⟩
theorem det_r29_Point (r : Rdr) (h : okR r) : Det Tryz.prog 74 [en r] [] (.tup [en (pointR r), en (pointV r)]) [] := by
  refine det_finF mixed0 (knows_cons known_Int29 (knows_cons known_r08_Unzig knows_nil)) ok_r29_Point 3 (by simp) ?_
  simp [ic_r29_Point, rs_r29_Point, cInt29, cUnzig, wrap_u64']
  exact ⟨h, ok_intR h, ⟨rfl, rfl⟩, rfl, rfl⟩
def cPoint29 : Ctr := V1 okR fun r => .tup [en (pointR r), en (pointV r)]
theorem known_Point29 : Known Tryz.prog 74 cPoint29 := known_V1 (fun r h => det_r29_Point r h) fun r _ => closed_pair _ _
end Go.Proofs.YtnckibgcjgeekaaGreat.Sx
