/- The queue (package fifo): the plain law of what its functions do. No conditions: a kit of our own. -/
import Derived.Test.YtphkdomiehboaaaFifo1
namespace Go.Proofs.Ytphkdomiehboaaa.Sx
open Go Go.RowKit
set_option linter.unusedVariables false
set_option linter.unusedSimpArgs false

theorem nth_set {α : Type} (l : List α) (i j : Nat) (x d : α) : nth (l.set i x) j d = if i = j ∧ i < l.length then x else nth l j d := by
  simp only [nth, List.getD_eq_getElem?_getD, List.getElem?_set]
  by_cases h : i = j
  · subst h
    by_cases h2 : i < l.length <;> simp [h2]
  · simp [h]
theorem pl_mod {q : Q} (h : q.ok) {i : Int} (hi : 0 ≤ i) : q.pl i = (q.head + i) % 1024 := by
  have := h.head0
  unfold Q.pl
  exact Int.tmod_eq_emod_of_nonneg (by omega)
theorem pl_ne {q : Q} (h : q.ok) {i j : Int} (hi : 0 ≤ i) (hj : 0 ≤ j) (hij : i ≠ j) (h1 : i < 1024) (h2 : j < 1024) : (q.pl i).toNat ≠ (q.pl j).toNat := by
  have a := h.pl hi
  have b := h.pl hj
  have a' := pl_mod h hi
  have b' := pl_mod h hj
  omega
theorem mem_all_of_ks {q : Q} (h : q.ok) (x : Int) : x ∈ q.ks ↔ x ∈ q.all := h.ks x

theorem newQ_all (room : Int) : (newQ room).all = [] := rfl
theorem newQ_room (room : Int) : (newQ room).room = max (min room 1024) 0 := rfl
theorem newQ_ok (room : Int) : (newQ room).ok := by
  have ha := newQ_all room
  have hr := newQ_room room
  refine ⟨newQ_len room, Int.le_refl _, ?_, Int.le_refl _, ?_, by rw [hr]; omega, fun x => by rw [ha]; exact Iff.rfl, by rw [ha]; exact List.nodup_nil, List.nodup_nil⟩
  · show (0 : Int) < 1024; omega
  · show (0 : Int) ≤ (newQ room).room; rw [hr]; omega

theorem put_law {q : Q} (h : q.ok) (x : Int) : (q.put x).2.ok ∧ (q.put x).2.room = q.room ∧ (q.put x).1 = (if x ∈ q.all then 6 else if q.n = q.room then 9 else 0) ∧ (q.put x).2.all = (if x ∈ q.all then q.all else if q.n = q.room then q.all else q.all ++ [x]) := by
  have h1 := h.head0; have h2 := h.head1; have h3 := h.n0; have h4 := h.n1; have h5 := h.room
  unfold Q.put
  by_cases hx : x ∈ q.ks
  · have := (h.ks x).1 hx
    simp [hx, this, h]
  · have hx' : x ∉ q.all := fun hh => hx ((h.ks x).2 hh)
    by_cases hr : q.n = q.room
    · simp [hx, hx', hr, h]
    · simp only [hx, hx', hr, if_false]
      have ha : ({ q with ring := q.ring.set (q.pl q.n).toNat x, ks := q.ks ++ [x], n := q.n + 1 } : Q).all = q.all ++ [x] := by
        simp only [Q.all]
        rw [show (q.n + 1).toNat = q.n.toNat + 1 by omega, List.range_succ, List.map_append]
        congr 1
        · apply List.map_congr_left
          intro i hi
          have hi' := List.mem_range.1 hi
          simp only [Q.get]
          show nth (q.ring.set (q.pl q.n).toNat x) (q.pl i).toNat 0 = _
          rw [nth_set, if_neg]
          intro hh
          exact pl_ne h (i := q.n) (j := i) h3 (by omega) (by omega) (by omega) (by omega) hh.1
        · simp only [List.map_cons, List.map_nil, Q.get]
          show [nth (q.ring.set (q.pl q.n).toNat x) (q.pl (q.n.toNat : Int)).toNat 0] = _
          rw [show ((q.n.toNat : Nat) : Int) = q.n by omega, nth_set, if_pos ⟨rfl, by rw [h.len]; exact (h.pl h3).2.2⟩]
      refine ⟨⟨?_, h1, h2, ?_, ?_, h5, fun y => ?_, ?_, ?_⟩, by trivial, by trivial, ha⟩
      · simp [h.len]
      · show 0 ≤ q.n + 1; omega
      · show q.n + 1 ≤ q.room; omega
      · rw [ha]; simp [h.ks y]
      · rw [ha, List.nodup_append]
        exact ⟨h.nodup, by simp, fun a h8 b h9 e => by simp at h9; subst h9; subst e; exact hx' h8⟩
      · show (q.ks ++ [x]).Nodup
        rw [List.nodup_append]
        exact ⟨h.kd, by simp, fun a h8 b h9 e => by simp at h9; subst h9; subst e; exact hx h8⟩

theorem all_cons {q : Q} (h : q.ok) (hn : q.n ≠ 0) : q.all = q.get 0 :: (List.range (q.n.toNat - 1)).map fun i : Nat => q.get (i + 1 : Nat) := by
  have h3 := h.n0
  simp only [Q.all]
  rw [show q.n.toNat = (q.n.toNat - 1) + 1 by omega, List.range_succ_eq_map]
  simp [Function.comp_def]
theorem first_law {q : Q} (h : q.ok) : q.first = (match q.all with | [] => .tup [.int .i64 0, .bool false] | x :: _ => .tup [.int .i64 x, .bool true]) := by
  by_cases hn : q.n = 0
  · have : q.all = [] := by simp [Q.all, hn]
    simp [Q.first, hn, this]
  · rw [all_cons h hn]; simp [Q.first, hn]
theorem take_law {q : Q} (h : q.ok) : q.take.2.ok ∧ q.take.2.room = q.room ∧ q.take.1 = q.first ∧ q.take.2.all = q.all.tail := by
  have h1 := h.head0; have h2 := h.head1; have h3 := h.n0; have h4 := h.n1; have h5 := h.room
  unfold Q.take
  by_cases hn : q.n = 0
  · have : q.all = [] := by simp [Q.all, hn]
    simp [hn, h, this]
  · simp only [hn, if_false]
    have hc := all_cons h hn
    have hp := h.pl (i := 1) (by omega)
    have ha : ({ q with head := q.pl 1, n := q.n - 1, ks := q.ks.erase (q.get 0) } : Q).all = q.all.tail := by
      rw [hc]
      simp only [Q.all, List.tail_cons]
      rw [show (q.n - 1).toNat = q.n.toNat - 1 by omega]
      apply List.map_congr_left
      intro i hi
      have hi' := List.mem_range.1 hi
      simp only [Q.get]
      have e : ({ q with head := q.pl 1, n := q.n - 1, ks := q.ks.erase (nth q.ring (q.pl 0).toNat 0) } : Q).pl i = q.pl (i + 1 : Nat) := by
        rw [pl_mod h (by omega)]
        unfold Q.pl at hp ⊢
        simp only
        rw [Int.tmod_eq_emod_of_nonneg (by omega)]
        rw [Int.tmod_eq_emod_of_nonneg (by omega)] at hp ⊢
        omega
      rw [e]
    have hnd := h.nodup
    rw [hc] at hnd
    refine ⟨⟨h.len, hp.1, hp.2.1, ?_, ?_, h5, fun y => ?_, ?_, h.kd.erase _⟩, trivial, trivial, ha⟩
    · show 0 ≤ q.n - 1; omega
    · show q.n - 1 ≤ q.room; omega
    · rw [ha, hc]
      show y ∈ q.ks.erase (q.get 0) ↔ _
      rw [h.kd.mem_erase_iff, h.ks y, hc]
      simp only [List.mem_cons, List.tail_cons]
      constructor
      · rintro ⟨h6, h7 | h7⟩
        · exact absurd h7 h6
        · exact h7
      · intro h6
        refine ⟨?_, .inr h6⟩
        rintro rfl
        exact (List.nodup_cons.1 hnd).1 h6
    · rw [ha, hc]; exact (List.nodup_cons.1 hnd).2

theorem shift_get {q : Q} (h : q.ok) (i k : Nat) (hk : i + k < 1024) : ∀ j : Nat, j < 1024 → (q.shift i k).get j = if i ≤ j ∧ j < i + k then q.get (j + 1 : Nat) else q.get j := by
  induction k with
  | zero => intro j hj; rw [if_neg (by omega)]; rfl
  | succ k ih =>
    intro j hj
    obtain ⟨e1, e2, e3, e4, e5⟩ := q.shift_same i k
    have hpl : ∀ j, (q.shift i k).pl j = q.pl j := fun j => by simp [Q.pl, e1]
    have hg : (q.shift i (k + 1)).get j = nth ((q.shift i k).ring.set (q.pl (i + k : Nat)).toNat ((q.shift i k).get (i + k + 1 : Nat))) (q.pl j).toNat 0 := by
      simp only [Q.get]
      have : (q.shift i (k + 1)).pl j = q.pl j := by simp [Q.pl, (q.shift_same i (k + 1)).1]
      rw [this]; rfl
    rw [hg, nth_set]
    by_cases hjk : j = i + k
    · subst hjk
      rw [if_pos ⟨rfl, by rw [e5, h.len]; exact (h.pl (by omega)).2.2⟩, if_pos (by omega), ih (by omega) _ (by omega), if_neg (by omega)]
    · rw [if_neg (fun hh => pl_ne h (by omega) (by omega) (by omega) (by omega) (by omega) hh.1)]
      have := ih (by omega) j hj
      simp only [Q.get, hpl] at this ⊢
      rw [this]
      by_cases hc : i ≤ j ∧ j < i + k
      · rw [if_pos hc, if_pos (by omega)]
      · rw [if_neg hc, if_neg (by omega)]
theorem drop_law {q : Q} (h : q.ok) (x : Int) : (q.drop x).2.ok ∧ (q.drop x).2.room = q.room ∧ (q.drop x).1 = decide (x ∈ q.all) ∧ (q.drop x).2.all = q.all.erase x := by
  have h1 := h.head0; have h2 := h.head1; have h3 := h.n0; have h4 := h.n1; have h5 := h.room
  unfold Q.drop
  by_cases hx : x ∈ q.ks
  · have hx' := (h.ks x).1 hx
    have hlt : q.all.idxOf x < q.all.length := List.idxOf_lt_length_of_mem hx'
    have hal := q.all_len
    simp only [hx, hx', if_true, decide_true]
    obtain ⟨e1, e2, e3, e4, e5⟩ := q.shift_same (q.all.idxOf x) (q.n.toNat - 1 - q.all.idxOf x)
    have hsg := shift_get h (q.all.idxOf x) (q.n.toNat - 1 - q.all.idxOf x) (by omega)
    have he : q.all.erase x = q.all.eraseIdx (q.all.idxOf x) := List.erase_eq_eraseIdx_of_idxOf rfl
    have ha : ({ q.shift (q.all.idxOf x) (q.n.toNat - 1 - q.all.idxOf x) with n := q.n - 1, ks := q.ks.erase x } : Q).all = q.all.erase x := by
      rw [he]
      apply List.ext_getElem
      · rw [List.length_eraseIdx_of_lt hlt, Q.all_len, Q.all_len]
        show (q.n - 1).toNat = q.n.toNat - 1
        omega
      · intro j hj1 hj2
        have hj : j < q.n.toNat - 1 := by simp [Q.all] at hj1; omega
        rw [Q.all_get hj1, List.getElem_eraseIdx]
        have := hsg j (by omega)
        show (q.shift (q.all.idxOf x) (q.n.toNat - 1 - q.all.idxOf x)).get j = _
        rw [this]
        split
        · rename_i hlt2
          rw [dif_neg (by omega), Q.all_get]
        · rename_i hlt2
          rw [dif_pos (by omega), Q.all_get]
    refine ⟨⟨by show _ = 1024; rw [e5]; exact h.len, by show 0 ≤ _; rw [e1]; exact h1, by show _ < (1024 : Int); rw [e1]; exact h2, ?_, ?_, by show _ ≤ (1024 : Int); rw [e3]; exact h5, fun y => ?_, ?_, h.kd.erase _⟩, e3, trivial, ha⟩
    · show 0 ≤ q.n - 1; omega
    · show q.n - 1 ≤ _; rw [e3]; omega
    · rw [ha]
      show y ∈ q.ks.erase x ↔ _
      rw [h.kd.mem_erase_iff, h.nodup.mem_erase_iff, h.ks y]
    · rw [ha]; exact h.nodup.erase _
  · have hx' : x ∉ q.all := fun hh => hx ((h.ks x).2 hh)
    simp [hx, hx', h, List.erase_of_not_mem]
theorem find_law {q : Q} (h : q.ok) (x : Int) : q.find x = if x ∈ q.all then (q.all.idxOf x : Int) else -1 := by
  unfold Q.find
  by_cases hx : x ∈ q.ks
  · simp [hx, (h.ks x).1 hx]
  · have hx' : x ∉ q.all := fun hh => hx ((h.ks x).2 hh)
    simp [hx, hx']
theorem n_law {q : Q} (h : q.ok) : q.n = q.all.length := by rw [q.all_len]; have := h.n0; omega
end Go.Proofs.Ytphkdomiehboaaa.Sx
