/- States that are alike, by the document's answer. No conditions: a kit of our own. -/
import Derived.Test.YtoapfffakfmioaaGreatFnC5
namespace Go.Proofs.YtoapfffakfmioaaGreat.Sx
open Go Go.RowKit
set_option linter.unusedVariables false
set_option linter.unusedSimpArgs false

theorem det_r19_Same (x y : Lck) (h : okK x) : Det Tryz.prog 88 [en x, en y] [] (.bool (decide (x = y))) [] := by
  refine det_finF mixed0 (knows_cons known_Ints knows_nil) ok_r19_Same 1 (by simp) ?_
  have h1 : x.Wait.length ≤ 9223372036854775807 := Nat.le_trans h (by decide)
  simp [ic_r19_Same, rs_r19_Same, cInts, h1]
  rw [Bool.eq_iff_iff]
  simp [ext_Lck, and_assoc]
def c_r19_Same : Ctr := C2 (fun x y : Lck => okK x) fun x y => .bool (decide (x = y))
theorem known_r19_Same : Known Tryz.prog 88 c_r19_Same := known_C2 (fun x y h => det_r19_Same x y h) fun x y => flat_bool _
theorem det_r26_All (l k : List Lse) (hl : l.length ≤ 9223372036854775807) (hx : okLs l) : Det Tryz.prog 29 [en l, en k] [] (.bool (decide (l = k))) [] := by
  refine det_finF mixed0 (knows_cons known_r26_Same knows_nil) ok_r26_All 1 (by simp) ?_
  simp [ic_r26_All, rs_r26_All]
  refine ⟨fun h e => h (by rw [e]), fun hlen => ?_⟩
  refine LoopC.scanB Lse.zero l (fun i (_ : Unit) => ⟨[(0, .view (l.map Cel.c)), (1, .view (k.map Cel.c)), (5, .int .i64 i)], []⟩) (fun i _ r => l = k ↔ r = k.drop i) () (by simp) (by simp) (by simp) (fun i a r b hi ha hd hG => ?_) fun b hG => ?_
  · have hi' : i < k.length := by omega
    have hy := drop_nth Lse.zero hi'
    have hxa := hx a (mem_drop hd)
    rw [hy] at hG
    simp [hi, hi', ha, cSameLse, hxa, vcLoose]
    refine ⟨fun e => ?_, fun e => ⟨by omega, ?_⟩⟩
    · rw [hG]; simp; intro e'; exact absurd e' e
    · rw [hG, e]; simp
  · simp
    rw [hG, List.drop_of_length_le (by omega)]
def c_r26_All : Ctr := C2 (fun l k : List Lse => l.length ≤ 9223372036854775807 ∧ okLs l) fun l k => .bool (decide (l = k))
theorem known_r26_All : Known Tryz.prog 29 c_r26_All := known_C2 (fun l k h => det_r26_All l k h.1 h.2) fun l k => flat_bool _
theorem det_r19_All (l k : List Lck) (hl : l.length ≤ 9223372036854775807) (hx : okKs l) : Det Tryz.prog 30 [en l, en k] [] (.bool (decide (l = k))) [] := by
  refine det_finF mixed0 (knows_cons known_r19_Same knows_nil) ok_r19_All 1 (by simp) ?_
  simp [ic_r19_All, rs_r19_All]
  refine ⟨fun h e => h (by rw [e]), fun hlen => ?_⟩
  refine LoopC.scanB Lck.zero l (fun i (_ : Unit) => ⟨[(0, .view (l.map Cel.c)), (1, .view (k.map Cel.c)), (5, .int .i64 i)], []⟩) (fun i _ r => l = k ↔ r = k.drop i) () (by simp) (by simp) (by simp) (fun i a r b hi ha hd hG => ?_) fun b hG => ?_
  · have hi' : i < k.length := by omega
    have hy := drop_nth Lck.zero hi'
    have hxa := hx a (mem_drop hd)
    rw [hy] at hG
    simp [hi, hi', ha, c_r19_Same, hxa, vcLoose]
    refine ⟨fun e => ?_, fun e => ⟨by omega, ?_⟩⟩
    · rw [hG]; simp; intro e'; exact absurd e' e
    · rw [hG, e]; simp
  · simp
    rw [hG, List.drop_of_length_le (by omega)]
def c_r19_All : Ctr := C2 (fun l k : List Lck => l.length ≤ 9223372036854775807 ∧ okKs l) fun l k => .bool (decide (l = k))
theorem known_r19_All : Known Tryz.prog 30 c_r19_All := known_C2 (fun l k h => det_r19_All l k h.1 h.2) fun l k => flat_bool _
theorem det_r25_Same (l k : List Hand) (hl : l.length ≤ 9223372036854775807) : Det Tryz.prog 28 [en l, en k] [] (.bool (decide (l = k))) [] := by
  refine det_finF mixed0 knows_nil ok_r25_Same 1 (by simp) ?_
  simp [ic_r25_Same, rs_r25_Same]
  refine ⟨fun h e => h (by rw [e]), fun hlen => ?_⟩
  refine LoopC.scanB Hand.zero l (fun i (_ : Unit) => ⟨[(0, .view (l.map Cel.c)), (1, .view (k.map Cel.c)), (5, .int .i64 i)], []⟩) (fun i _ r => l = k ↔ r = k.drop i) () (by simp) (by simp) (by simp) (fun i a r b hi ha hd hG => ?_) fun b hG => ?_
  · have hi' : i < k.length := by omega
    have hy := drop_nth Hand.zero hi'
    rw [hy] at hG
    by_cases e : a = nth k i Hand.zero
    · simp [hi, hi', ha, vcLoose, e]
      refine ⟨by omega, ?_⟩
      rw [hG, e]; simp
    · have e2 : ¬ (a.ID = (nth k i Hand.zero).ID ∧ a.Bits = (nth k i Hand.zero).Bits ∧ a.On = (nth k i Hand.zero).On) := fun h => e (by simp [ext_Hand, h])
      have e3 : ¬ l = k := fun h => by rw [hG] at h; simp at h; exact e h.1
      simp [hi, hi', ha, vcLoose, e3]
      grind
  · simp
    rw [hG, List.drop_of_length_le (by omega)]
theorem known_r25_Same : Known Tryz.prog 28 cEqHands := known_C2 (fun l k h => det_r25_Same l k h) fun l k => flat_bool _
theorem det_r30_Same (x y : Stt) (h : okS x) : Det Tryz.prog 10 [en x, en y] [] (.bool (decide (x = y))) [] := by
  refine det_finF mixed0 (knows_cons known_r30_SameTask (knows_cons known_r25_Same (knows_cons known_r26_All (knows_cons known_r19_All knows_nil)))) ok_r30_Same 1 (by simp) ?_
  have ht := h.t
  have u1 := up h.c
  have u2 := up h.u
  have u3 := up h.l
  have u4 := up h.k
  simp [ic_r30_Same, rs_r30_Same]
  refine ⟨fun h1 e => ?_, fun h1 h2 h3 h4 => ?_⟩
  · subst e; simp at h1
  have hE : x = y ↔ x.Tasks = y.Tasks ∧ x.Crew = y.Crew ∧ x.Units = y.Units ∧ x.Leases = y.Leases ∧ x.Locks = y.Locks := by
    rw [ext_Stt]; simp [h1, h2, h3]
  refine LoopC.scanB Tsk.zero x.Tasks (fun i (_ : Unit) => ⟨[(2, .ptr 0 0 0), (3, .ptr 1 0 0), (5, .int .i64 i)], [.rows 8 [Cel.c x], .rows 8 [Cel.c y]]⟩) (fun i _ r => x.Tasks = y.Tasks ↔ r = y.Tasks.drop i) () (by simp) (by simp) (by simp) (fun i a r b hi ha hd hG => ?_) fun b hG => ?_
  · have hi' : i < y.Tasks.length := by omega
    have hy := drop_nth Tsk.zero hi'
    have hxa := h.ts a (mem_drop hd)
    rw [hy] at hG
    simp [hi, hi', ha, cSameTask, hxa, vcLoose]
    refine ⟨fun e => ?_, fun e => ⟨by omega, ?_⟩⟩
    · rw [hE, hG]; simp; intro e'; exact absurd e' e
    · rw [hG, e]; simp
  · have hT : x.Tasks = y.Tasks := by rw [hG, List.drop_of_length_le (by omega)]
    simp [cEqHands, c_r26_All, c_r19_All, u1, u2, u3, u4, h.ls, h.ks]
    rw [Bool.eq_iff_iff]
    simp [hE, hT, and_assoc]
theorem known_r30_Same : Known Tryz.prog 10 cStateSame := known_C2 (fun x y h => det_r30_Same x y h) fun x y => flat_bool _
end Go.Proofs.YtoapfffakfmioaaGreat.Sx
