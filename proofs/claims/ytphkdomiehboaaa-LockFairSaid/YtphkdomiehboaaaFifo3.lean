/- The statements of the queue (tallymanlaw18): what their functions do. No conditions: a kit of our own. -/
import Derived.Test.YtphkdomiehboaaaFifo2
import Derived.Test.YtphkdomiehboaaaRef1
namespace Go.Proofs.Ytphkdomiehboaaa.Sx
open Go Go.RowKit
set_option linter.unusedVariables false
set_option linter.unusedSimpArgs false

/-- A heap with nothing but a queue. -/
theorem unQ_H (q : Q) (h : q.ok) : unQ (HQ q []) = q := unQ_HQ q [] h.len
theorem isQ_H (q : Q) (h : q.ok) : isQ (HQ q []) := ⟨q, [], rfl, h.len⟩
theorem isL_H (q : Q) (h : q.ok) : ∃ p, HQ q [] = HQ p [] ∧ p.ok := ⟨q, rfl, h⟩
def cNew : Ctr := ⟨fun a H => H = [] ∧ ∃ x, a = [.int .i64 x], fun _ _ => .ptr 1 0 0, fun a _ => HQ (newQ (numOf (nth a 0 .any))) []⟩
theorem known_New : Known Try.prog 12 cNew := by
  rintro args H ⟨rfl, x, rfl⟩
  exact det_New x

theorem det_l18_alive : Det Try.prog 11 [] [] (.bool true) [] := by
  refine det_finF mixed (knows_cons known_New (knows_cons known_Put (knows_cons known_Drop (knows_cons known_At (knows_cons known_List (knows_cons known_Ints (knows_cons known_Room knows_nil))))))) ok_l18_alive 1 (by simp) ?_
  have hnew := newQ_ok 3
  generalize hq0 : newQ 3 = q0 at *
  have hall0 : q0.all = [] := by rw [← hq0]; rfl
  have hroom0 : q0.room = 3 := by rw [← hq0]; rfl
  obtain ⟨k1, r1, v1, a1⟩ := put_law hnew 4
  generalize hq1 : q0.put 4 = p1 at *
  obtain ⟨w1, q1⟩ := p1
  simp only at k1 r1 v1 a1
  rw [hall0] at v1 a1
  obtain ⟨k2, r2, v2, a2⟩ := put_law k1 2
  generalize hq2 : q1.put 2 = p2 at *
  obtain ⟨w2, q2⟩ := p2
  simp only at k2 r2 v2 a2
  obtain ⟨k3, r3, v3, a3⟩ := put_law k2 9
  generalize hq3 : q2.put 9 = p3 at *
  obtain ⟨w3, q3⟩ := p3
  simp only at k3 r3 v3 a3
  obtain ⟨k4, r4, v4, a4⟩ := put_law k3 4
  generalize hq4 : q3.put 4 = p4 at *
  obtain ⟨w4, q4⟩ := p4
  simp only at k4 r4 v4 a4
  obtain ⟨k5, r5, v5, a5⟩ := put_law k4 5
  generalize hq5 : q4.put 5 = p5 at *
  obtain ⟨w5, q5⟩ := p5
  simp only at k5 r5 v5 a5
  obtain ⟨k6, r6, v6, a6⟩ := drop_law k5 2
  generalize hq6 : q5.drop 2 = p6 at *
  obtain ⟨w6, q6⟩ := p6
  simp only at k6 r6 v6 a6
  have n0 := n_law hnew; have n1 := n_law k1; have n2 := n_law k2; have n3 := n_law k3; have n4 := n_law k4
  have f6 := find_law k6 9
  have hidx : ((List.idxOf (9 : Int) [4, 9] : Nat) : Int) = 1 := by decide
  simp [hall0] at n0
  simp [n0, hroom0] at a1 v1
  simp [a1] at n1
  simp [a1, n1, r1, hroom0] at a2 v2
  simp [a2] at n2
  simp [a2, n2, r2, r1, hroom0] at a3 v3
  simp [a3] at n3
  simp [a3, n3, r3, r2, r1, hroom0] at a4 v4
  simp [a4] at n4
  simp [a4, n4, r4, r3, r2, r1, hroom0] at a5 v5
  simp [a5] at a6 v6
  simp [a6] at f6
  rw [hidx] at f6
  have hd : ∀ q : Q, List.drop 2 (HQ q []) = [] := fun q => rfl
  have hr6 : q6.room = 3 := by omega
  simp [ic_l18_alive, rs_l18_alive, cNew, cPut, cDrop, cAt, cList, cInts, cRoom, pureH, pureC, hq0, isQ_H, unQ_H, hnew, hd, hq1, k1, hq2, k2, hq3, k3, hq4, k4, hq5, k5, hq6, k6, v1, v2, v3, v4, v5, v6, a6, f6, hr6]
end Go.Proofs.Ytphkdomiehboaaa.Sx
