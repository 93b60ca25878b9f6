/- Commands of bytes (package code, reference 29). No conditions: a kit of our own. -/
import Derived.Test.YtoapfffakfmioaaBy7
namespace Go.Proofs.Ytoapfffakfmioaa.Sx
open Go Go.RowKit
set_option linter.unusedVariables false
set_option linter.unusedSimpArgs false

def takesS : Nat → Rdr → List Spec → Rdr × List Spec
  | 0, r, acc => (r, acc)
  | n + 1, r, acc => if r.E ≠ 0 then (r, acc) else takesS n (specR r) (acc ++ [specV r])
def cmdId (k : Int) (r : Rdr) : Rdr := if hasID k then intR r else r
def cmdBits (k : Int) (r : Rdr) : Rdr := if hasBits k then wordR (cmdId k r) else cmdId k r
def takeB (r : Rdr) : Rdr × List Spec := takesS (manyV r 64 15).toNat (manyR r 64 15) []
def cmdT (k : Int) (r : Rdr) : Rdr × List Spec := if k = 1 then takeB r else (cmdBits k r, [])
def cmdRd (r : Rdr) (k : Int) : Rdr := (cmdT k r).1
def cmdC (r : Rdr) (k : Int) : Cmd := ⟨k, if hasID k then intV r else 0, if hasBits k then wordV (cmdId k r) else 0#64, (cmdT k r).2⟩

theorem takes_len : ∀ (n : Nat) (r : Rdr) (acc : List Int), (takes n r acc).2.length ≤ acc.length + n
  | 0, r, acc => by simp [takes]
  | n + 1, r, acc => by
    unfold takes; split
    · simp
    · have := takes_len n (intR r) (acc ++ [intV r])
      simp at this; omega
theorem specV_after (r : Rdr) : (specV r).After.length ≤ 8 := by
  unfold specV; split
  · simp [Spec.zero]
  · have := takes_len (manyV (r6 r) 8 1).toNat (r7 r) []
    have := manyV_le (r6 r) 8 1 (by decide)
    simp [spec0, takeN] at *; omega
theorem takesS_len : ∀ (n : Nat) (r : Rdr) (acc : List Spec), (∀ x ∈ acc, x.After.length ≤ 8) → (takesS n r acc).2.length ≤ acc.length + n ∧ ∀ x ∈ (takesS n r acc).2, x.After.length ≤ 8
  | 0, r, acc, h => by simp [takesS]; exact h
  | n + 1, r, acc, h => by
    unfold takesS; split
    · simp; exact h
    · have := takesS_len n (specR r) (acc ++ [specV r]) (by
        intro x hx
        rcases List.mem_append.1 hx with hx | hx
        · exact h x hx
        · simp at hx; subst hx; exact specV_after r)
      refine ⟨?_, this.2⟩
      have := this.1
      simp at this; omega
theorem cmdC_small (r : Rdr) (k : Int) : (cmdC r k).Batch.length ≤ 64 ∧ ∀ x ∈ (cmdC r k).Batch, x.After.length ≤ 8 := by
  show (cmdT k r).2.length ≤ 64 ∧ ∀ x ∈ (cmdT k r).2, x.After.length ≤ 8
  unfold cmdT takeB
  split
  · obtain ⟨t1, t2⟩ := takesS_len (manyV r 64 15).toNat (manyR r 64 15) [] (by simp)
    have := manyV_le r 64 15 (by decide)
    simp only [List.length_nil] at t1
    exact ⟨by omega, t2⟩
  · simp
theorem ok_takesS : ∀ (n : Nat) (r : Rdr) (acc : List Spec), okR r → okR (takesS n r acc).1
  | 0, r, acc, h => h
  | n + 1, r, acc, h => by
    unfold takesS; split
    · exact h
    · exact ok_takesS n _ _ (ok_specR h)
theorem ok_cmdId {k : Int} {r : Rdr} (h : okR r) : okR (cmdId k r) := by
  unfold cmdId; split
  · exact ok_intR h
  · exact h
theorem ok_cmdBits {k : Int} {r : Rdr} (h : okR r) : okR (cmdBits k r) := by
  unfold cmdBits; split
  · exact ok_wordR (ok_cmdId h)
  · exact ok_cmdId h
theorem ok_cmdRd {k : Int} {r : Rdr} (h : okR r) : okR (cmdRd r k) := by
  unfold cmdRd cmdT; split
  · exact ok_takesS _ _ _ (ok_manyR h)
  · exact ok_cmdBits h
attribute [local irreducible] unvar intR intV wordR wordV manyR manyV takes takesS specR specV
theorem det_command (r : Rdr) (k : Int) (h : okR r) (h1 : 1 ≤ k) (h2 : k ≤ 15) : Det Try.prog 66 [.ptr 0 0 0, en k] [.rows (Cel.n Rdr) [Cel.c r]] (en (cmdC r k)) [.rows (Cel.n Rdr) [Cel.c (cmdRd r k)]] := by
  refine det_finM mixed0 (knows_cons known_Fields (knows_cons known_Int (knows_cons known_Word (knows_cons known_Many (knows_cons known_Spec knows_nil))))) ok_code_reader_command 2 (by simp) ?_
  rcases four k with ⟨f1, f2, f3⟩ | ⟨f1, f2, f3⟩ | ⟨f1, f2, f3⟩ | ⟨f1, f2, f3⟩
  · subst f3
    simp [ic_code_reader_command, rs_code_reader_command, cFields, cInt, cWord, cMany, cSpec, h, f1, f2]
    have hm := manyV_nn r 64 15
    have hm2 := manyV_le r 64 15 (by decide)
    have e : ((manyV r 64 15).toNat : Int) = manyV r 64 15 := by omega
    refine LoopC.genR (fun a : Rdr × List Spec × Nat => ⟨[(0, .ptr 0 0 0), (4, .ptr 1 0 0), (5, .ptr 2 0 0), (9, .int .i64 a.2.2)], [.rows 2 [Cel.c a.1], .rows 4 [[.int .i64 0, .int .i64 0, .int .u64 0, .nils]], .rows 4 [[.int .i64 1, .int .i64 0, .int .u64 0, bs 3 (a.2.1.map Cel.c)]], bob 9 (a.2.1.map Cel.c)]⟩)
      (fun a => takesS a.2.2 a.1 a.2.1 = takeB r ∧ okR a.1 ∧ a.2.1.length + a.2.2 ≤ 64) (fun a => a.2.2) (manyR r 64 15, [], (manyV r 64 15).toNat) [0, 1, 2, 3] (by simp [atR, e]) ⟨by simp only [takeB], ok_manyR h, by simp; omega⟩ fun ⟨⟨B, E⟩, acc, n⟩ ⟨g1, g2, g3⟩ => ?_
    simp only at g1 g2 g3
    by_cases hE : E = 0
    · subst hE
      cases n with
      | zero =>
        simp [takesS] at g1
        have e1 : cmdRd r 1 = ⟨B, 0⟩ := by simp [cmdRd, cmdT, ← g1]
        have e2 : cmdC r 1 = ⟨1, 0, 0#64, acc⟩ := by simp [cmdC, cmdT, ← g1, f1, f2]
        rw [e1, e2]
        simp
      | succ n =>
        rw [takesS, if_neg (by simp)] at g1
        have e3 : (0:Int) < ((n + 1 : Nat) : Int) := by omega
        simp [e3, g2, vcLoose, heapsOf, cSpec]
        exact ⟨by omega, by omega, specR ⟨B, 0⟩, acc ++ [specV ⟨B, 0⟩], n, ⟨[0, 1, 2, 4], by simp [atR]⟩, ⟨g1, ok_specR g2, by simp; omega⟩, by omega⟩
    · have e0 : takesS n ⟨B, E⟩ acc = (⟨B, E⟩, acc) := by cases n <;> simp [takesS, hE]
      rw [e0] at g1
      have e1 : cmdRd r 1 = ⟨B, E⟩ := by simp [cmdRd, cmdT, ← g1]
      have e2 : cmdC r 1 = ⟨1, 0, 0#64, acc⟩ := by simp [cmdC, cmdT, ← g1, f1, f2]
      rw [e1, e2]
      simp [hE]
  · simp [ic_code_reader_command, rs_code_reader_command, cFields, cInt, cWord, cMany, cSpec, h, h1, h2, f1, f2, f3, cmdRd, cmdC, cmdT, cmdBits, cmdId, ok_intR]
  · simp [ic_code_reader_command, rs_code_reader_command, cFields, cInt, cWord, cMany, cSpec, h, h1, h2, f1, f2, f3, cmdRd, cmdC, cmdT, cmdBits, cmdId]
  · simp [ic_code_reader_command, rs_code_reader_command, cFields, cInt, cWord, cMany, cSpec, h, h1, h2, f1, f2, f3, cmdRd, cmdC, cmdT, cmdBits, cmdId]
def cCommand : Ctr := M1 (fun (r : Rdr) (k : Int) => okR r ∧ 1 ≤ k ∧ k ≤ 15) cmdRd fun r k => en (cmdC r k)
theorem known_Command : Known Try.prog 66 cCommand := known_M1 (fun r k h => det_command r k h.1 h.2.1 h.2.2) fun r k _ => closed_en _
end Go.Proofs.Ytoapfffakfmioaa.Sx
