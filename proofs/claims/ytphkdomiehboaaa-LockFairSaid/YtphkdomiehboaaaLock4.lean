/- The lock: the plain law. No conditions: a kit of our own. -/
import Derived.Test.YtphkdomiehboaaaLock3
namespace Go.Proofs.Ytphkdomiehboaaa.Sx
open Go Go.RowKit
set_option linter.unusedVariables false
set_option linter.unusedSimpArgs false

structure L.ok (l : L) : Prop where
  q : l.q.ok
  room : l.q.room = 64
  h0 : 0 ≤ l.holder
  pos : ∀ x ∈ l.q.all, 1 ≤ x
  free : ∀ x ∈ l.q.all, x ≠ l.holder
theorem newL_ok (id : Int) : L.ok ⟨newQ 64, id, 0⟩ := ⟨newQ_ok 64, by rw [newQ_room]; decide, Int.le_refl _, fun x h => by simp [newQ_all] at h, fun x h => by simp [newQ_all] at h⟩
theorem ask_law {l : L} (h : l.ok) (t : Int) : (l.ask t).2.ok ∧ (l.ask t).2.id = l.id ∧ (l.ask t).2.holder = l.holder ∧
    (l.ask t).1 = (if t < 1 then 1 else if l.holder = t ∨ t ∈ l.q.all then 6 else if 64 ≤ l.q.all.length then 9 else 0) ∧
    (l.ask t).2.q.all = (if t < 1 then l.q.all else if l.holder = t ∨ t ∈ l.q.all then l.q.all else if 64 ≤ l.q.all.length then l.q.all else l.q.all ++ [t]) := by
  obtain ⟨ok1, room1, v1, a1⟩ := put_law h.q t
  have hn := n_law h.q
  have hb := h.q.n1
  have hr := h.room
  unfold L.ask
  by_cases h1 : t < 1
  · simp [h1, h]
  · by_cases h2 : t = l.holder
    · subst h2; simp [h1, h]
    · have h2' : ¬ l.holder = t := fun e => h2 e.symm
      simp only [h1, h2, h2', if_false, false_or]
      by_cases h3 : t ∈ l.q.all
      · simp only [h3, if_true] at v1 a1 ⊢
        refine ⟨⟨ok1, by show (l.q.put t).2.room = (64 : Int); omega, h.h0, ?_, ?_⟩, trivial, trivial, v1, a1⟩
        · show ∀ x ∈ (l.q.put t).2.all, 1 ≤ x; rw [a1]; exact h.pos
        · show ∀ x ∈ (l.q.put t).2.all, x ≠ l.holder; rw [a1]; exact h.free
      · by_cases h4 : l.q.n = l.q.room
        · have h4' : 64 ≤ l.q.all.length := by omega
          simp only [h3, h4, h4', if_true, if_false] at v1 a1 ⊢
          refine ⟨⟨ok1, by show (l.q.put t).2.room = (64 : Int); omega, h.h0, ?_, ?_⟩, trivial, trivial, v1, a1⟩
          · show ∀ x ∈ (l.q.put t).2.all, 1 ≤ x; rw [a1]; exact h.pos
          · show ∀ x ∈ (l.q.put t).2.all, x ≠ l.holder; rw [a1]; exact h.free
        · have h4' : ¬ 64 ≤ l.q.all.length := by omega
          simp only [h3, h4, h4', if_false] at v1 a1 ⊢
          refine ⟨⟨ok1, by show (l.q.put t).2.room = (64 : Int); omega, h.h0, ?_, ?_⟩, trivial, trivial, v1, a1⟩
          · show ∀ x ∈ (l.q.put t).2.all, 1 ≤ x; rw [a1]; intro x hx
            rcases List.mem_append.1 hx with hx | hx
            · exact h.pos x hx
            · simp at hx; omega
          · show ∀ x ∈ (l.q.put t).2.all, x ≠ l.holder; rw [a1]; intro x hx
            rcases List.mem_append.1 hx with hx | hx
            · exact h.free x hx
            · simp at hx; omega
theorem leave_law {l : L} (h : l.ok) (t : Int) : (l.leave t).2.ok ∧ (l.leave t).2.id = l.id ∧
    (l.leave t).1 = (if 0 < t ∧ l.holder = t then 2 else if t ∈ l.q.all then 1 else 0) ∧ (l.leave t).2.holder = (if 0 < t ∧ l.holder = t then 0 else l.holder) ∧
    (l.leave t).2.q.all = (if 0 < t ∧ l.holder = t then l.q.all else l.q.all.erase t) := by
  obtain ⟨ok1, room1, v1, a1⟩ := drop_law h.q t
  have hr := h.room
  have hnd := h.q.nodup
  have ok2 : L.ok { l with q := (l.q.drop t).2 } := by
    refine ⟨ok1, by show (l.q.drop t).2.room = (64 : Int); omega, h.h0, ?_, ?_⟩
    · show ∀ x ∈ (l.q.drop t).2.all, 1 ≤ x; rw [a1]; intro x hx; exact h.pos x (List.mem_of_mem_erase hx)
    · show ∀ x ∈ (l.q.drop t).2.all, x ≠ l.holder; rw [a1]; intro x hx; exact h.free x (List.mem_of_mem_erase hx)
  unfold L.leave
  by_cases h1 : t < 1
  · have hm : t ∉ l.q.all := fun hm => by have := h.pos t hm; omega
    have h1' : ¬ 0 < t := by omega
    simp only [h1, h1', hm, if_true, if_false, false_and]
    exact ⟨h, trivial, trivial, trivial, (List.erase_of_not_mem hm).symm⟩
  · have h1' : 0 < t := by omega
    by_cases h2 : t = l.holder
    · subst h2
      simp only [h1, h1', if_true, if_false, and_self]
      refine ⟨⟨h.q, hr, Int.le_refl _, h.pos, fun x hx => ?_⟩, by trivial⟩
      show x ≠ 0; have := h.pos x hx; omega
    · have h2' : ¬ l.holder = t := fun e => h2 e.symm
      by_cases h3 : t ∈ l.q.all
      · simp only [h1, h1', h2, h2', h3, v1, if_true, if_false, and_false, decide_true]
        exact ⟨ok2, trivial, trivial, trivial, a1⟩
      · simp only [h1, h1', h2, h2', h3, v1, if_true, if_false, and_false, decide_false, Bool.false_eq_true]
        exact ⟨ok2, trivial, trivial, trivial, a1⟩
theorem grant_law {l : L} (h : l.ok) : l.grant.2.ok ∧ l.grant.2.id = l.id ∧
    l.grant.1 = (if l.holder ≠ 0 then .tup [.int .i64 0, .bool false] else match l.q.all with | [] => .tup [.int .i64 0, .bool false] | y :: _ => .tup [.int .i64 y, .bool true]) ∧
    l.grant.2.holder = (if l.holder ≠ 0 then l.holder else match l.q.all with | [] => 0 | y :: _ => y) ∧ l.grant.2.q.all = (if l.holder ≠ 0 then l.q.all else l.q.all.tail) := by
  obtain ⟨ok1, room1, v1, a1⟩ := take_law h.q
  have hf := first_law h.q
  have hr := h.room
  have hp := h.h0
  have hnd := h.q.nodup
  unfold L.grant
  by_cases h1 : 0 < l.holder
  · have h1' : l.holder ≠ 0 := by omega
    simp [h1, h1', h]
  · have h1' : l.holder = 0 := by omega
    simp only [h1', Int.lt_irrefl, if_false, ne_eq, not_true]
    rcases hall : l.q.all with _ | ⟨y, ys⟩
    · rw [hall] at hf a1
      refine ⟨⟨ok1, by show l.q.take.2.room = (64 : Int); omega, Int.le_refl _, ?_, ?_⟩, trivial, by rw [v1, hf], rfl, a1⟩
      · show ∀ x ∈ l.q.take.2.all, 1 ≤ x; rw [a1]; intro x hx; simp at hx
      · show ∀ x ∈ l.q.take.2.all, x ≠ (0 : Int); rw [a1]; intro x hx; simp at hx
    · have hpos := h.pos
      rw [hall] at hf a1 hnd hpos
      refine ⟨⟨ok1, by show l.q.take.2.room = (64 : Int); omega, ?_, ?_, ?_⟩, trivial, by rw [v1, hf], rfl, a1⟩
      · show (0 : Int) ≤ y; have := hpos y (by simp); omega
      · show ∀ x ∈ l.q.take.2.all, 1 ≤ x; rw [a1]; intro x hx; exact hpos x (List.mem_cons_of_mem _ hx)
      · show ∀ x ∈ l.q.take.2.all, x ≠ y; rw [a1]; intro x hx e; subst e; exact (List.nodup_cons.1 hnd).1 hx
end Go.Proofs.Ytphkdomiehboaaa.Sx
