/- The statement FifoFair of the queue: its function returns true. No conditions: a kit of our own. -/
import Derived.Test.YtphkdomiehboaaaFifo4
namespace Go.Proofs.Ytphkdomiehboaaa.Sx
open Go Go.RowKit
set_option linter.unusedVariables false
set_option linter.unusedSimpArgs false

def cPut' : Ctr := ⟨fun a H => ∃ x, a = [.nilp, .int .i64 x] ∨ (isQ H ∧ (unQ H).ok ∧ a = [.ptr 1 0 0, .int .i64 x]), fun a H => match a with | [.nilp, _] => .int .i64 9 | _ => .int .i64 ((unQ H).put (numOf (nth a 1 .any))).1,
  fun a H => match a with | [.nilp, _] => H | _ => HQ ((unQ H).put (numOf (nth a 1 .any))).2 (H.drop 2)⟩
theorem known_Put' : Known Try.prog 14 cPut' := by
  rintro args H ⟨x, rfl | ⟨⟨q, rest, rfl, hl⟩, hok, rfl⟩⟩
  · exact det_Put0 H x
  · simp only [cPut', unQ_HQ q rest hl] at hok ⊢
    exact det_Put hok rest x
def cTake' : Ctr := ⟨fun a H => a = [.nilp] ∨ (isQ H ∧ (unQ H).ok ∧ a = [.ptr 1 0 0]), fun a H => match a with | [.nilp] => .tup [.int .i64 0, .bool false] | _ => (unQ H).take.1, fun a H => match a with | [.nilp] => H | _ => HQ (unQ H).take.2 (H.drop 2)⟩
theorem known_Take' : Known Try.prog 16 cTake' := by
  rintro args H (rfl | ⟨⟨q, rest, rfl, hl⟩, hok, rfl⟩)
  · exact det_Take0 H
  · simp only [cTake', unQ_HQ q rest hl] at hok ⊢
    exact det_Take hok rest
def cDrop' : Ctr := ⟨fun a H => ∃ x, a = [.nilp, .int .i64 x] ∨ (isQ H ∧ (unQ H).ok ∧ a = [.ptr 1 0 0, .int .i64 x]), fun a H => match a with | [.nilp, _] => .bool false | _ => .bool ((unQ H).drop (numOf (nth a 1 .any))).1,
  fun a H => match a with | [.nilp, _] => H | _ => HQ ((unQ H).drop (numOf (nth a 1 .any))).2 (H.drop 2)⟩
theorem known_Drop' : Known Try.prog 17 cDrop' := by
  rintro args H ⟨x, rfl | ⟨⟨q, rest, rfl, hl⟩, hok, rfl⟩⟩
  · exact det_Drop0 H x
  · simp only [cDrop', unQ_HQ q rest hl] at hok ⊢
    exact det_Drop hok rest x

theorem idx_ne {x y : Int} (l : List Int) (h : y ≠ x) : (y :: l).idxOf x = l.idxOf x + 1 := by
  have hb : (y == x) = false := by simpa using h
  rw [List.idxOf_cons, hb]; rfl
theorem idxOf_erase_le {x z : Int} (hne : x ≠ z) : ∀ l : List Int, x ∈ l → (l.erase z).idxOf x ≤ l.idxOf x
  | [], h => by cases h
  | y :: l, h => by
    rw [List.erase_cons]
    by_cases hy : y = z
    · subst hy
      simp only [beq_self_eq_true, if_true]
      rw [idx_ne _ (fun e => hne e.symm)]
      omega
    · have hb : (y == z) = false := by simpa using hy
      simp only [hb, Bool.false_eq_true, if_false]
      by_cases hyx : y = x
      · subst hyx; simp
      · have hxl : x ∈ l := by
          rcases List.mem_cons.1 h with h | h
          · exact absurd h.symm hyx
          · exact h
        rw [idx_ne _ hyx, idx_ne _ hyx]
        have := idxOf_erase_le hne l hxl
        omega

/-- How a number's place may turn from one round to the next. -/
def fair (q q1 : Q) (x : Int) : Prop := q1.ok ∧ q1.room = 1000 ∧ (0 ≤ q.find x → q1.find x ≤ q.find x) ∧ (q.find x < 0 → 0 ≤ q1.find x → q1.find x = q1.n - 1)
theorem fair_same {q : Q} (h : q.ok) (hr : q.room = 1000) (x : Int) : fair q q x := ⟨h, hr, fun _ => Int.le_refl _, fun h1 h2 => by omega⟩
theorem fair_put {q : Q} (h : q.ok) (hr : q.room = 1000) (x y : Int) : fair q (q.put y).2 x := by
  obtain ⟨ok1, room1, v1, a1⟩ := put_law h y
  refine ⟨ok1, by omega, fun h0 => ?_, fun h0 h1 => ?_⟩
  all_goals
    rw [find_law h] at *
    rw [find_law ok1] at *
  · by_cases hx : x ∈ q.all
    · have hx1 : x ∈ (q.put y).2.all := by rw [a1]; split <;> (try split) <;> simp [hx]
      rw [if_pos hx, if_pos hx1, a1]
      split
      · omega
      · split
        · omega
        · rw [List.idxOf_append, if_pos hx]; omega
    · rw [if_neg hx] at h0; omega
  · by_cases hx : x ∈ q.all
    · rw [if_pos hx] at h0; omega
    · by_cases hx1 : x ∈ (q.put y).2.all
      · rw [if_pos hx1, n_law ok1]
        rw [a1] at hx1 ⊢
        split at hx1
        · exact absurd hx1 hx
        · split at hx1
          · exact absurd hx1 hx
          · rename_i g1 g2
            simp only [g1, g2, if_false]
            rw [List.idxOf_append, if_neg hx]
            have : x = y := by simpa [hx] using hx1
            subst this
            simp
      · rw [if_neg hx1] at h1; omega
theorem fair_take {q : Q} (h : q.ok) (hr : q.room = 1000) (x : Int) : fair q q.take.2 x := by
  obtain ⟨ok1, room1, v1, a1⟩ := take_law h
  have hnd := h.nodup
  rcases hall : q.all with _ | ⟨y, ys⟩
  · rw [hall] at a1
    refine ⟨ok1, by omega, fun h0 => ?_, fun h0 h1 => ?_⟩
    · rw [find_law h, hall] at h0; simp at h0
    · rw [find_law ok1, a1] at h1; simp at h1
  · rw [hall] at hnd a1
    simp only [List.tail_cons] at a1
    refine ⟨ok1, by omega, fun h0 => ?_, fun h0 h1 => ?_⟩
    · rw [find_law h, hall] at h0 ⊢
      rw [find_law ok1, a1]
      by_cases hx : x ∈ ys
      · have hyx : y ≠ x := fun e => (List.nodup_cons.1 hnd).1 (e ▸ hx)
        rw [if_pos hx, if_pos (List.mem_cons_of_mem _ hx), idx_ne _ hyx]
        omega
      · rw [if_neg hx]; omega
    · rw [find_law h, hall] at h0
      rw [find_law ok1, a1] at h1
      by_cases hx : x ∈ y :: ys
      · rw [if_pos hx] at h0; omega
      · have hx' : x ∉ ys := fun hh => hx (List.mem_cons_of_mem _ hh)
        rw [if_neg hx'] at h1; omega
theorem fair_drop {q : Q} (h : q.ok) (hr : q.room = 1000) (x y : Int) : fair q (q.drop y).2 x := by
  obtain ⟨ok1, room1, v1, a1⟩ := drop_law h y
  refine ⟨ok1, by omega, fun h0 => ?_, fun h0 h1 => ?_⟩
  all_goals
    rw [find_law h] at *
    rw [find_law ok1, a1] at *
  · by_cases hx : x ∈ q.all
    · rw [if_pos hx]
      by_cases hxy : x = y
      · subst hxy
        rw [if_neg (fun hh => (h.nodup.mem_erase_iff.1 hh).1 rfl)]; omega
      · rw [if_pos (h.nodup.mem_erase_iff.2 ⟨hxy, hx⟩)]
        have := idxOf_erase_le hxy q.all hx
        omega
    · rw [if_neg hx] at h0; omega
  · by_cases hx : x ∈ q.all
    · rw [if_pos hx] at h0; omega
    · rw [if_neg (fun hh => hx (h.nodup.mem_erase_iff.1 hh).2)] at h1; omega
theorem take_tells {q : Q} (h : q.ok) (x y : Int) (ys : List Int) (hall : q.all = y :: ys) (h0 : 0 ≤ q.find x) : (y = x) ↔ q.find x = 0 := by
  rw [find_law h, hall] at *
  by_cases hx : x ∈ y :: ys
  · rw [if_pos hx]
    by_cases hyx : y = x
    · subst hyx; simp
    · rw [idx_ne _ hyx]
      constructor
      · intro e; exact absurd e hyx
      · intro e; omega
  · rw [if_neg hx] at h0; omega
end Go.Proofs.Ytphkdomiehboaaa.Sx
