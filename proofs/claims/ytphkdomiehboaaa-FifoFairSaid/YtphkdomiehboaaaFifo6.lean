/- The statement FifoFair of the queue: its function returns true (the walk). No conditions: a kit of our own. -/
import Derived.Test.YtphkdomiehboaaaFifo5
namespace Go.Proofs.Ytphkdomiehboaaa.Sx
open Go Go.RowKit
set_option linter.unusedVariables false
set_option linter.unusedSimpArgs false

def Γf : FuncId → Ctr := Γof [(11, cAlive), (12, cNew), (14, cPut'), (16, cTake'), (17, cDrop'), (19, cFirst), (20, cAt), (24, cLen), (25, cRoom)]
@[simp] theorem gf_0 : Γf 11 = cAlive := rfl
@[simp] theorem gf_1 : Γf 12 = cNew := rfl
@[simp] theorem gf_2 : Γf 14 = cPut' := rfl
@[simp] theorem gf_3 : Γf 16 = cTake' := rfl
@[simp] theorem gf_4 : Γf 17 = cDrop' := rfl
@[simp] theorem gf_5 : Γf 19 = cFirst := rfl
@[simp] theorem gf_6 : Γf 20 = cAt := rfl
@[simp] theorem gf_7 : Γf 24 = cLen := rfl
@[simp] theorem gf_8 : Γf 25 = cRoom := rfl
theorem knowsf : Knows Try.prog Γf :=
  knows_cons known_Alive18 (knows_cons known_New (knows_cons known_Put' (knows_cons known_Take' (knows_cons known_Drop' (knows_cons known_First (knows_cons known_At (knows_cons known_Len (knows_cons known_Room knows_nil))))))))

def stF (x : Int) (acts : List (Int × Int)) (a : Nat × Q) : AS := ⟨[(1, .int .i64 x), (5, .ptr 1 0 0), (6, .int .i64 (a.2.find x)), (28, vA acts), (29, .int .i64 acts.length), (30, .int .i64 a.1)], HQ a.2 []⟩
theorem stF_low (x : Int) (acts : List (Int × Int)) (b : Nat × Q) : lowTm (stF x acts b).hp.length (stF x acts b).tm ∧ ∀ o ∈ (stF x acts b).hp, LowO (stF x acts b).hp.length o :=
  ⟨lowTm_cons (low_closed (closed_int _ _)) (lowTm_cons (low_ptr (by simp [stF, HQ])) (lowTm_cons (low_closed (closed_int _ _)) (lowTm_cons (low_closed (closed_vA _)) (lowTm_cons (low_closed (closed_int _ _)) (lowTm_cons (low_closed (closed_int _ _)) (lowTm_nil _)))))), low_HQ b.2⟩

set_option maxHeartbeats 4000000 in
theorem det_FifoFair (x : Int) (acts : List (Int × Int)) : Det Try.prog 4 [vA acts, .int .i64 x] [] (.bool true) [] := by
  refine det_finF mixed knowsf ok_l18_FifoFair 1 (by simp) ?_
  have h0 := newQ_ok 1000
  have hr0 := newQ_room 1000
  have hr0' : (newQ 1000).room = 1000 := by rw [hr0]; decide
  obtain ⟨ok1, room1, _, _⟩ := fair_put h0 hr0' x x
  have hr1 := isQ_HQ ok1
  have hu1 := unQ_HQ' ok1
  have hrn := isQ_HQ h0
  have hun := unQ_HQ' h0
  simp [ic_l18_FifoFair, rs_l18_FifoFair, cAlive, cNew, cPut', cAt, pureC, pureH, vA, hrn, hun, h0, hr1, hu1, ok1]
  intro hlen
  refine LoopC.byF (stF x acts) (fun b => b.2.ok ∧ b.2.room = 1000 ∧ b.1 ≤ acts.length) (fun b => acts.length - b.1) (0, ((newQ 1000).put x).2) (fun b => Nat.zero_le _) (fun b _ => stF_low _ _ b) ?_ fun ⟨i, q⟩ ⟨hok, hroom, hi⟩ => ?_
  · refine ⟨?_, ⟨[], rfl⟩, ok1, room1, Nat.zero_le _⟩
    simp [stF, vA]
  · simp only at hok hroom hi
    simp [stF, vA]
    refine ⟨fun hlt => ⟨hlt, ?_⟩, fun hge => ?_⟩
    · generalize nth acts i (0, 0) = act
      refine JoinC.by' (fun s' => ∃ q1 : Q, fair q q1 x ∧ s' = ⟨[(1, .int .i64 x), (5, .ptr 1 0 0), (6, .int .i64 (q.find x)), (28, vA acts), (29, .int .i64 acts.length), (30, .int .i64 i)], HQ q1 [.rows 2 [rA act]]⟩) ?_ ?_
      · have hr := isQ_HQ hok
        have hu := unQ_HQ' hok
        by_cases k1 : act.1 = 1
        · simp [vA, rA, k1, cPut', hr, hu, hok]
          exact ⟨_, fair_put hok hroom x act.2, rfl⟩
        · by_cases k2 : act.1 = 2
          · obtain ⟨_, _, v1, a1⟩ := take_law hok
            have hft := fair_take hok hroom x
            have hf := first_law hok
            rcases hall : q.all with _ | ⟨y, ys⟩
            · rw [hall] at hf
              rw [hf] at v1
              simp [vA, rA, k1, k2, cTake', hr, hu, hok, v1]
              exact ⟨_, hft, rfl⟩
            · rw [hall] at hf
              rw [hf] at v1
              have ht := take_tells hok x y ys hall
              by_cases h0 : 0 ≤ q.find x
              · have ht := ht h0
                by_cases hyx : y = x
                · have hz := ht.1 hyx
                  simp [vA, rA, k2, cTake', hr, hu, hok, v1, h0, hyx, hz]
                  exact ⟨_, hft, rfl⟩
                · have hz : ¬ q.find x = 0 := fun e => hyx (ht.2 e)
                  simp [vA, rA, k2, cTake', hr, hu, hok, v1, h0, hyx, hz]
                  exact ⟨_, hft, rfl⟩
              · simp [vA, rA, k2, cTake', hr, hu, hok, v1, h0]
                exact ⟨_, hft, rfl⟩
          · by_cases k3 : act.1 = 3
            · simp [vA, rA, k1, k2, k3, cDrop', hr, hu, hok]
              exact ⟨_, fair_drop hok hroom x act.2, rfl⟩
            · simp [vA, rA, k1, k2, k3]
              exact ⟨q, fair_same hok hroom x, rfl⟩
      · rintro s' ⟨q1, ⟨ok2, room2, g1, g2⟩, rfl⟩
        have hr := isQ_HQ ok2
        have hu := unQ_HQ' ok2
        have hnl := n_law ok2
        have hb1 := ok2.n0; have hb2 := ok2.n1
        by_cases h0 : 0 ≤ q.find x
        · have g1 := g1 h0
          have h0' : ¬ q.find x < 0 := by omega
          have g1' : ¬ q.find x < q1.find x := by omega
          simp [vA, rA, cAt, cLen, pureH, hr, hu, ok2, h0, g1, h0', g1']
          exact ⟨by omega, (i + 1, q1), by simp; omega, by simp [stF, vA], ⟨_, rfl⟩, ok2, room2, by simp; omega⟩
        · have h0' : q.find x < 0 := by omega
          have g2 := g2 h0'
          by_cases h1 : 0 ≤ q1.find x
          · have g2 := g2 h1
            have hn1 : 1 ≤ q1.n := by omega
            simp [vA, rA, cAt, cLen, pureH, hr, hu, ok2, h0, h0', g2, hn1]
            exact ⟨by omega, by omega, (i + 1, q1), by simp; omega, by simp [stF, vA, g2], ⟨_, rfl⟩, ok2, room2, by simp; omega⟩
          · simp [vA, rA, cAt, cLen, pureH, hr, hu, ok2, h0, h0', h1]
            exact ⟨by omega, (i + 1, q1), by simp; omega, by simp [stF, vA], ⟨_, rfl⟩, ok2, room2, by simp; omega⟩
    · simp [cAlive, cPut', cTake', cDrop', cFirst, cAt, cLen, cRoom, pureH, pureC]
end Go.Proofs.Ytphkdomiehboaaa.Sx
