/- The statement LockDoes of the lock: its function returns true (the walk). No conditions: a kit of our own. -/
import Derived.Test.YtphkdomiehboaaaLock7
import Derived.Test.YtphkdomiehboaaaSx23
namespace Go.Proofs.Ytphkdomiehboaaa.Sx
open Go Go.RowKit
set_option linter.unusedVariables false
set_option linter.unusedSimpArgs false

theorem stL_m (acts : List (Int × Int)) (b : Nat × L) : 0 ≤ (stL acts b).hp.length := Nat.zero_le _
theorem seen_ubox0 (id : Int) : seenOb (.rows 3 [[.int .i64 id, .int .i64 0, .nils]]) (ubox ⟨newQ 64, id, 0⟩) := .inr ⟨3, _, _, rfl, rfl, by simp [seenRs, seenL, seen1, newQ_all]⟩
theorem seenH_HLk {l : L} {a b : AObj} (h : seenOb a b) (rest : List AObj) : seenH (HLk l (a :: rest)) (HLk l [b]) := ⟨seenOb_refl _, seenOb_refl _, seenOb_refl _, h, by cases rest <;> trivial⟩
@[simp] theorem lId_aggv (i h : Int) (v : AV) : lId (.agg [.int .i64 i, .int .i64 h, v]) = i := rfl
@[simp] theorem lHo_aggv (i h : Int) (v : AV) : lHo (.agg [.int .i64 i, .int .i64 h, v]) = h := rfl
@[simp] theorem lWa_agg0 (i h : Int) : lWa (.agg [.int .i64 i, .int .i64 h, .view []]) = [] := lWa_agg i h []
@[simp] theorem lWa_aggc (i h y : Int) (ys : List Int) : lWa (.agg [.int .i64 i, .int .i64 h, .view (rI y :: ys.map rI)]) = y :: ys := lWa_agg i h (y :: ys)
@[simp] theorem isL_agg0 (i h : Int) : isL (.agg [.int .i64 i, .int .i64 h, .view []]) := isL_agg i h []
@[simp] theorem isL_aggc (i h y : Int) (ys : List Int) : isL (.agg [.int .i64 i, .int .i64 h, .view (rI y :: ys.map rI)]) := isL_agg i h (y :: ys)
def stJ (acts : List (Int × Int)) (i : Nat) (l : L) (act : Int × Int) : AS := ⟨[(5, .ptr 2 0 0), (6, .ptr 3 0 0), (27, vA acts), (28, .int .i64 acts.length), (29, .int .i64 i)], HLk l [ubox l, .rows 2 [rA act]]⟩
set_option maxHeartbeats 4000000 in
theorem det_LockDoes (id : Int) (acts : List (Int × Int)) : Det Try.prog 5 [.int .i64 id, vA acts] [] (.bool true) [] := by
  refine det_finF mixed knows19 ok_l19_LockDoes 1 (by simp) ?_
  have k0 := newL_ok id
  simp [ic_l19_LockDoes, rs_l19_LockDoes, cAlive, cLockNew, pureC, vA]
  intro hlen
  refine LoopC.byG (stL acts) (fun b => b.2.ok ∧ b.1 ≤ acts.length) (fun b => acts.length - b.1) (0, ⟨newQ 64, id, 0⟩) (stL_m acts) (fun b _ => stL_low _ b) ?_ fun ⟨i, l⟩ ⟨hok, hi⟩ => ?_
  · refine ⟨by simp [stL, vA], seenH_HLk (seen_ubox0 id) _, k0, Nat.zero_le _⟩
  · simp only at hok hi
    simp [stL, vA]
    refine ⟨fun hlt => ⟨hlt, ?_⟩, fun hge => ?_⟩
    · generalize nth acts i (0, 0) = act
      refine JoinC.by' (fun s' => ∃ l1 : L, l1.ok ∧ s' = stJ acts i l1 act) ?_ ?_
      · have hr := isLk_HLk hok.q
        have hu := unLk_HLk hok.q
        have hq := hok.q
        have hnl := n_law hok.q
        have hb1 := hok.q.n1; have hb2 := hok.room
        by_cases k1 : act.1 = 1
        · obtain ⟨ok1, id1, ho1, v1, a1⟩ := ask_law hok act.2
          generalize hq1 : l.ask act.2 = p1 at *
          obtain ⟨w, l1⟩ := p1
          simp only at ok1 id1 ho1 v1 a1
          have hll : l.q.all.length ≤ 1000000 := by omega
          by_cases c1 : act.2 < 1
          · simp only [c1, if_true] at v1 a1
            simp [vA, rA, k1, cAsk, cR19Ask, pureC, hr, hu, hq1, v1, ubox, r19Ask, c1, hll, vL]
            exact ⟨l1, ok1, by simp [stJ, ubox, vA, rA, id1, ho1, a1, k1]⟩
          · by_cases c2 : l.holder = act.2 ∨ act.2 ∈ l.q.all
            · simp only [c1, c2, if_true, if_false] at v1 a1
              simp [vA, rA, k1, cAsk, cR19Ask, pureC, hr, hu, hq1, v1, ubox, r19Ask, c1, c2, hll, vL]
              exact ⟨l1, ok1, by simp [stJ, ubox, vA, rA, id1, ho1, a1, k1]⟩
            · by_cases c3 : 64 ≤ l.q.all.length
              · simp only [c1, c2, c3, if_true, if_false] at v1 a1
                simp [vA, rA, k1, cAsk, cR19Ask, pureC, hr, hu, hq1, v1, ubox, r19Ask, c1, c2, c3, hll, vL]
                exact ⟨l1, ok1, by simp [stJ, ubox, vA, rA, id1, ho1, a1, k1]⟩
              · simp only [c1, c2, c3, if_false] at v1 a1
                simp [vA, rA, k1, cAsk, cR19Ask, pureC, hr, hu, hq1, v1, ubox, r19Ask, c1, c2, c3, hll, vL]
                exact ⟨l1, ok1, by simp [stJ, ubox, vA, rA, id1, ho1, a1, k1]⟩
        · by_cases k2 : act.1 = 2
          · obtain ⟨ok1, id1, v1, ho1, a1⟩ := grant_law hok
            generalize hq1 : l.grant = p1 at *
            obtain ⟨w, l1⟩ := p1
            simp only at ok1 id1 ho1 v1 a1
            have hll : l.q.all.length ≤ 1000000 := by omega
            by_cases c1 : l.holder = 0
            · rcases hall : l.q.all with _ | ⟨y, ys⟩
              · simp only [c1, hall, ne_eq, not_true, if_false, List.tail_nil] at v1 a1 ho1
                rw [hall] at hll
                simp [vA, rA, k2, cGrant, cR19Grant, pureC, hr, hu, hq1, v1, ubox, r19Grant, c1, hall, vL]
                exact ⟨l1, ok1, by simp [stJ, ubox, vA, rA, id1, ho1, a1, k2]⟩
              · simp only [c1, hall, ne_eq, not_true, if_false, List.tail_cons] at v1 a1 ho1
                rw [hall] at hll
                simp at hll
                simp [vA, rA, k2, cGrant, cR19Grant, pureC, hr, hu, hq1, v1, ubox, r19Grant, c1, hall, vL, hll]
                exact ⟨l1, ok1, by simp [stJ, ubox, vA, rA, id1, ho1, a1, k2]⟩
            · simp only [ne_eq, c1, not_false_eq_true, if_true] at v1 a1 ho1
              simp [vA, rA, k2, cGrant, cR19Grant, pureC, hr, hu, hq1, v1, ubox, r19Grant, c1, vL, hll]
              exact ⟨l1, ok1, by simp [stJ, ubox, vA, rA, id1, ho1, a1, k2]⟩
          · by_cases k3 : act.1 = 3
            · obtain ⟨ok1, id1, v1, ho1, a1⟩ := leave_law hok act.2
              generalize hq1 : l.leave act.2 = p1 at *
              obtain ⟨w, l1⟩ := p1
              simp only at ok1 id1 ho1 v1 a1
              have hll : l.q.all.length ≤ 1000000 := by omega
              by_cases c1 : 0 < act.2 ∧ l.holder = act.2
              · simp only [c1, and_self, if_true] at v1 a1 ho1
                simp [vA, rA, k3, cLeave, cR19Leave, pureC, hr, hu, hq1, v1, ubox, r19Leave, c1, hll, vL]
                exact ⟨l1, ok1, by simp [stJ, ubox, vA, rA, id1, ho1, a1, k3]⟩
              · by_cases c2 : act.2 ∈ l.q.all
                · simp only [c1, c2, if_true, if_false] at v1 a1 ho1
                  have ef : l.q.all.erase act.2 = l.q.all.filter (fun x => decide ¬x = act.2) := by
                    rw [hok.q.nodup.erase_eq_filter]
                    apply List.filter_congr
                    intro x _
                    by_cases hx : x = act.2 <;> simp [hx]
                  rw [ef] at a1
                  simp [vA, rA, k3, cLeave, cR19Leave, pureC, hr, hu, hq1, v1, ubox, r19Leave, c1, c2, hll, vL]
                  refine ⟨l1, ok1, ?_⟩
                  simp only [stJ, ubox, vA, rA, id1, ho1, a1, k3]
                  try rfl
                · simp only [c1, c2, if_false] at v1 a1 ho1
                  rw [List.erase_of_not_mem c2] at a1
                  simp [vA, rA, k3, cLeave, cR19Leave, pureC, hr, hu, hq1, v1, ubox, r19Leave, c1, c2, hll, vL]
                  exact ⟨l1, ok1, by simp [stJ, ubox, vA, rA, id1, ho1, a1, k3]⟩
            · simp [vA, rA, k1, k2, k3]
              exact ⟨l, hok, rfl⟩
      · rintro s' ⟨l1, ok1, rfl⟩
        have hr := isLk_HLk ok1.q
        have hu := unLk_HLk ok1.q
        have hf := first_law ok1.q
        have hnl := n_law ok1.q
        have hb1 := ok1.q.n1; have hb2 := ok1.room
        have hll : l1.q.all.length ≤ 140737488355328 := by omega
        cases hall : l1.q.all with
        | nil =>
          rw [hall] at hf
          simp [stJ, vA, rA, cHead, pureH, hr, hu, hf, cView, cR19Same, pureC, ubox, hall, vL]
          exact ⟨by omega, (i + 1, l1), by simp; omega, by simp [stL, vA], seenH_HLk (.inl (by simp [ubox, hall])) _, ok1, by simp; omega⟩
        | cons y ys =>
          rw [hall] at hf hll
          simp [stJ, vA, rA, cHead, pureH, hr, hu, hf, cView, cR19Same, pureC, ubox, hall, vL, hll]
          simp at hll
          exact ⟨by omega, by omega, (i + 1, l1), by simp; omega, by simp [stL, vA], seenH_HLk (.inl (by simp [ubox, hall])) _, ok1, by simp; omega⟩
    · simp [cAlive, pureC]
end Go.Proofs.Ytphkdomiehboaaa.Sx
