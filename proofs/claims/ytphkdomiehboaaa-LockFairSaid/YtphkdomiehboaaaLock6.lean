/- The statement LockDoes of the lock: its function returns true. No conditions: a kit of our own. -/
import Derived.Test.YtphkdomiehboaaaLock5
import Derived.Test.YtphkdomiehboaaaFifo4
namespace Go.Proofs.Ytphkdomiehboaaa.Sx
open Go Go.RowKit
set_option linter.unusedVariables false
set_option linter.unusedSimpArgs false

def cLockNew : Ctr := ⟨fun a H => H = [] ∧ ∃ x, a = [.int .i64 x], fun _ _ => .ptr 2 0 0, fun a _ => HLk ⟨newQ 64, numOf (nth a 0 .any), 0⟩ []⟩
theorem known_LockNew : Known Try.prog 27 cLockNew := by
  rintro args H ⟨rfl, x, rfl⟩
  exact det_LockNew x
theorem det_l19_alive : Det Try.prog 26 [] [] (.bool true) [] := by
  refine det_finF mixed (knows_cons known_LockNew (knows_cons known_Ask (knows_cons known_Grant (knows_cons known_Leave (knows_cons known_View knows_nil))))) ok_l19_alive 1 (by simp) ?_
  have k0 := newL_ok 3
  generalize hl0 : L.mk (newQ 64) 3 0 = l0 at *
  have all0 : l0.q.all = [] := by rw [← hl0]; rfl
  have ho0 : l0.holder = 0 := by rw [← hl0]
  have id0 : l0.id = 3 := by rw [← hl0]
  obtain ⟨k1, i1, o1, v1, a1⟩ := ask_law k0 5
  generalize hl1 : l0.ask 5 = p1 at *
  obtain ⟨w1, l1⟩ := p1
  simp only [all0, ho0] at k1 i1 o1 v1 a1
  simp at v1 a1
  obtain ⟨k2, i2, o2, v2, a2⟩ := ask_law k1 7
  generalize hl2 : l1.ask 7 = p2 at *
  obtain ⟨w2, l2⟩ := p2
  simp only [a1, o1] at k2 i2 o2 v2 a2
  simp at v2 a2
  obtain ⟨k3, i3, v3, o3, a3⟩ := grant_law k2
  generalize hl3 : l2.grant = p3 at *
  obtain ⟨w3, l3⟩ := p3
  simp only [a2, o2] at k3 i3 v3 o3 a3
  simp at v3 o3 a3
  obtain ⟨k4, i4, v4, o4, a4⟩ := grant_law k3
  generalize hl4 : l3.grant = p4 at *
  obtain ⟨w4, l4⟩ := p4
  simp only [a3, o3] at k4 i4 v4 o4 a4
  simp at v4 o4 a4
  obtain ⟨k5, i5, v5, o5, a5⟩ := leave_law k4 5
  generalize hl5 : l4.leave 5 = p5 at *
  obtain ⟨w5, l5⟩ := p5
  simp only [a4, o4] at k5 i5 v5 o5 a5
  simp at v5 o5 a5
  obtain ⟨k6, i6, v6, o6, a6⟩ := leave_law k5 5
  generalize hl6 : l5.leave 5 = p6 at *
  obtain ⟨w6, l6⟩ := p6
  simp only [a5, o5] at k6 i6 v6 o6 a6
  simp at v6 o6 a6
  obtain ⟨k7, i7, v7, o7, a7⟩ := leave_law k6 7
  generalize hl7 : l6.leave 7 = p7 at *
  obtain ⟨w7, l7⟩ := p7
  simp only [a6, o6] at k7 i7 v7 o7 a7
  simp at v7 o7 a7
  have hid : l7.id = 3 := by omega
  have hd : ∀ l : L, List.drop 3 (HLk l []) = [] := fun l => rfl
  simp [ic_l19_alive, rs_l19_alive, cLockNew, cAsk, cGrant, cLeave, cView, pureH, hl0, isLk_HLk, unLk_HLk, k0.q, hd, hl1, k1.q, hl2, k2.q, hl3, k3.q, hl4, k4.q, hl5, k5.q, hl6, k6.q, hl7, k7.q, v1, v2, v3, v4, v5, v6, v7, hid, vL]
end Go.Proofs.Ytphkdomiehboaaa.Sx
