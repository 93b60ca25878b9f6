/- Readers of bytes (package code, reference 29): specs. No conditions: a kit of our own. -/
import Derived.Test.YtnckibgcjgeekaaGreatBy5
namespace Go.Proofs.YtnckibgcjgeekaaGreat.Sx
open Go Go.RowKit
set_option linter.unusedVariables false
set_option linter.unusedSimpArgs false

/-- So many numbers, while nothing is wrong. -/
def takes : Nat → Rdr → List Int → Rdr × List Int
  | 0, r, acc => (r, acc)
  | n + 1, r, acc => if r.E ≠ 0 then (r, acc) else takes n (intR r) (acc ++ [intV r])
def r1 (r : Rdr) : Rdr := intR r
def r2 (r : Rdr) : Rdr := intR (r1 r)
def r3 (r : Rdr) : Rdr := wordR (r2 r)
def r4 (r : Rdr) : Rdr := wordR (r3 r)
def r5 (r : Rdr) : Rdr := pointR (r4 r)
def r6 (r : Rdr) : Rdr := pointR (r5 r)
def r7 (r : Rdr) : Rdr := manyR (r6 r) 8 1
def spec0 (r : Rdr) (after : List Int) : Spec := ⟨intV r, intV (r1 r), wordV (r2 r), wordV (r3 r), pointV (r4 r), pointV (r5 r), after⟩
def takeN (r : Rdr) : Rdr × List Int := takes (manyV (r6 r) 8 1).toNat (r7 r) []
def specR (r : Rdr) : Rdr := (takeN r).1
def specV (r : Rdr) : Spec := if (specR r).E ≠ 0 then Spec.zero else spec0 r (takeN r).2
theorem ok_takes : ∀ (n : Nat) (r : Rdr) (acc : List Int), okR r → okR (takes n r acc).1
  | 0, r, acc, h => h
  | n + 1, r, acc, h => by
    unfold takes; split
    · exact h
    · exact ok_takes n _ _ (ok_intR h)
theorem ok_r1 {r : Rdr} (h : okR r) : okR (r1 r) := ok_intR h
theorem ok_r2 {r : Rdr} (h : okR r) : okR (r2 r) := ok_intR (ok_r1 h)
theorem ok_r3 {r : Rdr} (h : okR r) : okR (r3 r) := ok_wordR (ok_r2 h)
theorem ok_r4 {r : Rdr} (h : okR r) : okR (r4 r) := ok_wordR (ok_r3 h)
theorem ok_r5 {r : Rdr} (h : okR r) : okR (r5 r) := ok_intR (ok_intR (ok_r4 h))
theorem ok_r6 {r : Rdr} (h : okR r) : okR (r6 r) := ok_intR (ok_intR (ok_r5 h))
theorem ok_r7 {r : Rdr} (h : okR r) : okR (r7 r) := ok_manyR (ok_r6 h)
theorem ok_specR {r : Rdr} (h : okR r) : okR (specR r) := ok_takes _ _ _ (ok_r7 h)

attribute [local irreducible] unvar intR intV wordR wordV manyR manyV takes
theorem manyV_nn (r : Rdr) (m e : Int) : 0 ≤ manyV r m e := by
  have := intV_nn r
  unfold manyV; split <;> omega
theorem manyV_le (r : Rdr) (m e : Int) (h : 0 ≤ m) : manyV r m e ≤ m := by
  unfold manyV; split <;> omega
theorem det_spec (r : Rdr) (h : okR r) : Det Tryz.prog 144 [.ptr 0 0 0] [.rows (Cel.n Rdr) [Cel.c r]] (en (specV r)) [.rows (Cel.n Rdr) [Cel.c (specR r)]] := by
  refine det_finM mixed0 (knows_cons known_Int (knows_cons known_Word (knows_cons known_ZigR (knows_cons known_Many knows_nil)))) ok_code_reader_spec 2 (by simp) ?_
  simp [ic_code_reader_spec, rs_code_reader_spec, cInt, cWord, cZigR, cMny]
  refine BackC.genR (fun a : Rdr × List Int × Nat => ⟨[(0, .ptr 0 0 0), (2, .ptr 1 0 0), (3, .ptr 2 0 0), (4, .int .i64 a.2.2)], [.rows 2 [Cel.c a.1], .rows 9 [[.int .i64 0, .int .i64 0, .int .u64 0, .int .u64 0, .int .i64 0, .int .i64 0, .int .i64 0, .int .i64 0, .nils]],
      .rows 9 [[.int .i64 (intV r), .int .i64 (intV (r1 r)), .int .u64 (wordV (r2 r)).toNat, .int .u64 (wordV (r3 r)).toNat, .int .i64 (pointV (r4 r)).X, .int .i64 (pointV (r4 r)).Y, .int .i64 (pointV (r5 r)).X, .int .i64 (pointV (r5 r)).Y, bs 3 (a.2.1.map Cel.c)]], bob 1 (a.2.1.map Cel.c)]⟩)
    (fun a => takes a.2.2 a.1 a.2.1 = takeN r ∧ okR a.1 ∧ a.2.1.length + a.2.2 ≤ 8) (fun a => a.2.2) ?_ fun ⟨rd, acc, n⟩ ⟨h1, h2, h3⟩ => ?_
  · simp
    refine ⟨h, ok_r1 h, ok_r2 h, ok_r3 h, ok_r4 h, ok_intR (ok_r4 h), ok_r5 h, ok_intR (ok_r5 h), ok_r6 h, r7 r, [], (manyV (r6 r) 8 1).toNat, ⟨[0, 1, 2, 3], ?_⟩, by simp only [takeN], ok_r7 h, ?_⟩
    · have hm := manyV_nn (r6 r) 8 1
      have e : ((manyV (r6 r) 8 1).toNat : Int) = manyV (r6 r) 8 1 := by omega
      simp [atR, e]
      simp [r7, r6, r5, r4, r3, r2, r1, pointR, pointV]
    · have := manyV_le (r6 r) 8 1 (by decide)
      simp; omega
  · simp only at h1 h2 h3
    obtain ⟨B, E⟩ := rd
    by_cases he : E = 0
    · subst he
      cases n with
      | zero =>
        simp [takes] at h1
        have e1 : specR r = ⟨B, 0⟩ := by unfold specR; rw [← h1]
        have e2 : specV r = spec0 r acc := by unfold specV; rw [e1, ← h1, if_neg (by simp)]
        rw [e1, e2]
        simp [spec0]
      | succ n =>
        rw [takes, if_neg (by simp)] at h1
        have e1 : (0:Int) < ((n + 1 : Nat) : Int) := by omega
        simp [e1, cInt, h2, vcLoose, heapsOf]
        exact ⟨by omega, by omega, intR ⟨B, 0⟩, acc ++ [intV ⟨B, 0⟩], n, ⟨[0, 1, 2, 4], by simp [atR]⟩, ⟨h1, ok_intR h2, by simp; omega⟩, by omega⟩
    · have e0 : takes n ⟨B, E⟩ acc = (⟨B, E⟩, acc) := by cases n <;> simp [takes, he]
      rw [e0] at h1
      have e1 : specR r = ⟨B, E⟩ := by unfold specR; rw [← h1]
      have e2 : specV r = Spec.zero := by unfold specV; rw [e1, if_pos (by simpa using he)]
      rw [e1, e2]
      simp [he, Spec.zero]
theorem det_r29_Spec (r : Rdr) (h : okR r) : Det Tryz.prog 75 [en r] [] (.tup [en (specR r), en (specV r)]) [] := by
  refine det_finF mixed0 (knows_cons known_Int29 (knows_cons known_Word29 (knows_cons known_Point29 knows_nil))) ok_r29_Spec 3 (by simp) ?_
  simp [ic_r29_Spec, rs_r29_Spec, cInt29, cWord29, cPoint29]
  refine ⟨h, ok_r1 h, ok_r2 h, ok_r3 h, ok_r4 h, ok_r5 h, ok_r6 h, ?_⟩
  refine JoinC.by' (fun s' => ∃ a, (a = .view ((r7 r).B.map Cel.c) ∨ a = .nils ∧ r7 r = ⟨[], 1⟩) ∧ s' = ⟨[(1, .ptr 0 0 0), (2, .ptr 1 0 0), (3, .ptr 2 0 0), (4, .ptr 3 0 0), (5, .int .i64 (intV (r6 r)))], [.rows 2 [[a, .int .i64 (r7 r).E]], .rows 2 [[.nils, .int .i64 0]], .rows 9 [[.int .i64 0, .int .i64 0, .int .u64 0, .int .u64 0, .int .i64 0, .int .i64 0, .int .i64 0, .int .i64 0, .nils]],
      .rows 9 [[.int .i64 (intV r), .int .i64 (intV (r1 r)), .int .u64 (wordV (r2 r)).toNat, .int .u64 (wordV (r3 r)).toNat, .int .i64 (pointV (r4 r)).X, .int .i64 (pointV (r4 r)).Y, .int .i64 (pointV (r5 r)).X, .int .i64 (pointV (r5 r)).Y, .nils]]]⟩) ?_ ?_
  · have e1 : (intR (r6 r)).E ≠ 0 → intV (r6 r) = 0 := intV_E
    by_cases hE : (intR (r6 r)).E = 0
    · by_cases hn : 8 < intV (r6 r)
      · have e7 : r7 r = ⟨[], 1⟩ := by simp [r7, manyR, hn]
        simp [r6, r5, r4, r3, r2, r1] at hE hn
        rw [e7]
        simp [hE, hn]
        simp [r6, r5, r4, r3, r2, r1]
      · have e7 : r7 r = intR (r6 r) := by simp [r7, manyR, hn]
        simp [r6, r5, r4, r3, r2, r1] at hE hn
        rw [e7]
        simp [hE, hn, Int.not_lt.2 hn]
        exact .inl (by simp [r6, r5, r4, r3, r2, r1, hE])
    · have e2 := e1 hE
      have e7 : r7 r = intR (r6 r) := by simp [r7, manyR, e2]
      simp [r6, r5, r4, r3, r2, r1] at hE
      rw [e7]
      simp [hE]
      exact .inl (by simp [r6, r5, r4, r3, r2, r1])
  · rintro s' ⟨a, ha, rfl⟩
    simp
    refine LoopC.genR (fun b : AV × Rdr × List Int × Nat => let a := b.2; ⟨[(1, .ptr 0 0 0), (2, .ptr 1 0 0), (3, .ptr 2 0 0), (4, .ptr 3 0 0), (5, .int .i64 (intV (r6 r))), (6, .int .i64 a.2.1.length)], [.rows 2 [[b.1, .int .i64 a.1.E]], .rows 2 [[.nils, .int .i64 0]], .rows 9 [[.int .i64 0, .int .i64 0, .int .u64 0, .int .u64 0, .int .i64 0, .int .i64 0, .int .i64 0, .int .i64 0, .nils]],
      .rows 9 [[.int .i64 (intV r), .int .i64 (intV (r1 r)), .int .u64 (wordV (r2 r)).toNat, .int .u64 (wordV (r3 r)).toNat, .int .i64 (pointV (r4 r)).X, .int .i64 (pointV (r4 r)).Y, .int .i64 (pointV (r5 r)).X, .int .i64 (pointV (r5 r)).Y, bs 4 (a.2.1.map Cel.c)]], bob 1 (a.2.1.map Cel.c)]⟩)
      (fun b => let a := b.2; takes a.2.2 a.1 a.2.1 = takeN r ∧ okR a.1 ∧ a.2.1.length + a.2.2 ≤ 8 ∧ (a.1.E = 0 → intV (r6 r) = a.2.1.length + a.2.2) ∧ (b.1 = .view (a.1.B.map Cel.c) ∨ b.1 = .nils ∧ a.1 = ⟨[], 1⟩)) (fun b => b.2.2.2) (a, r7 r, [], (manyV (r6 r) 8 1).toNat) [0, 1, 2, 3, 4] (by
        rcases ha with rfl | ⟨rfl, hB⟩
        · simp [atR]
        · simp [atR, hB]) ⟨by simp only [takeN], ok_r7 h, ?_, ?_, ha⟩ fun ⟨cl, ⟨B, E⟩, acc, n⟩ ⟨h1, h2, h3, h4, h5⟩ => ?_
    · have := manyV_le (r6 r) 8 1 (by decide)
      simp; omega
    · have := manyV_nn (r6 r) 8 1
      simp [r7, manyR, manyV]
      split
      · simp
      · intro _; have := intV_nn (r6 r); omega
    · simp only at h1 h2 h3 h4 h5
      by_cases he : E = 0
      · subst he
        have h4 := h4 rfl
        have h5 : cl = .view (B.map Cel.c) := by
          rcases h5 with h5 | ⟨_, h5⟩
          · exact h5
          · simp at h5
        subst h5
        cases n with
        | zero =>
          simp [takes] at h1
          have e1 : specR r = ⟨B, 0⟩ := by unfold specR; rw [← h1]
          have e2 : specV r = spec0 r acc := by unfold specV; rw [e1, ← h1, if_neg (by simp)]
          have e3 : ¬ ((acc.length : Int) < intV (r6 r)) := by omega
          rw [e1, e2]
          simp [spec0, e3, vcLoose, heapsOf]
        | succ n =>
          rw [takes, if_neg (by simp)] at h1
          have e3 : (acc.length : Int) < intV (r6 r) := by omega
          simp [e3, cInt29, h2]
          exact ⟨by omega, ⟨by omega, by omega⟩, _, intR ⟨B, 0⟩, acc ++ [intV ⟨B, 0⟩], ⟨[0, 1, 2, 3, 5], by simp [atR]⟩, n, ⟨h1, ok_intR h2, by simp; omega, fun _ => by simp; omega, .inl rfl⟩, by omega⟩
      · have e0 : takes n ⟨B, E⟩ acc = (⟨B, E⟩, acc) := by cases n <;> simp [takes, he]
        rw [e0] at h1
        have e1 : specR r = ⟨B, E⟩ := by unfold specR; rw [← h1]
        have e2 : specV r = Spec.zero := by unfold specV; rw [e1, if_pos (by simpa using he)]
        rw [e1, e2]
        rcases h5 with rfl | ⟨rfl, h5⟩
        · simp [he, Spec.zero]
        · simp at h5
          simp [h5.1, h5.2, Spec.zero]
def cSpec : Ctr := M0 okR specR fun r => en (specV r)
theorem known_Spec : Known Tryz.prog 144 cSpec := known_M0 (fun r h => det_spec r h) fun r _ => closed_en _
def cSpec29 : Ctr := V1 okR fun r => .tup [en (specR r), en (specV r)]
theorem known_Spec29 : Known Tryz.prog 75 cSpec29 := known_V1 (fun r h => det_r29_Spec r h) fun r _ => closed_pair _ _
def takeV (b : List (BitVec 8)) : AV := .tup [en (specV ⟨b, 0⟩), en (specR ⟨b, 0⟩).B, en (specR ⟨b, 0⟩).E]
theorem closed_triple {α β γ : Type} [Cel α] [Cel β] [Cel γ] (x : α) (y : β) (z : γ) : Closed (.tup [en x, en y, en z]) := by
  refine .tup rfl fun i a b h1 h2 => ?_
  rw [h1] at h2; cases h2
  have := List.mem_of_getElem? h1
  simp only [List.mem_cons, List.not_mem_nil, or_false] at this
  rcases this with rfl | rfl | rfl <;> exact closed_en _
theorem closed_takeV (b : List (BitVec 8)) : Closed (takeV b) := closed_triple _ _ _
theorem det_TakeSpec (b : List (BitVec 8)) (h : b.length ≤ 1000000000) : Det Tryz.prog 125 [en b] [] (takeV b) [] := by
  refine det_finF mixed0 (knows_cons known_Spec knows_nil) ok_code_TakeSpec 3 (by simp) ?_
  have h' : okR ⟨b, 0⟩ := h
  simp [ic_code_TakeSpec, rs_code_TakeSpec, cSpec, takeV, h', vcLoose, heapsOf]
def cTakeSpec : Ctr := V1 (fun b : List (BitVec 8) => b.length ≤ 1000000000) takeV
theorem known_TakeSpec : Known Tryz.prog 125 cTakeSpec := known_V1 (fun b h => det_TakeSpec b h) fun b _ => closed_takeV b
end Go.Proofs.YtnckibgcjgeekaaGreat.Sx
