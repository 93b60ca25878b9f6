/- The statement LockFair of the lock: contracts, nobody's lock too. No conditions: a kit of our own. -/
import Derived.Test.YtphkdomiehboaaaLock7
import Derived.Test.YtphkdomiehboaaaSx23
namespace Go.Proofs.Ytphkdomiehboaaa.Sx
open Go Go.RowKit
set_option linter.unusedVariables false
set_option linter.unusedSimpArgs false

theorem det_Ask0 (H : List AObj) (t : Int) : Det Try.prog 28 [.nilp, .int .i64 t] H (.int .i64 9) H := by
  refine det_fin0 mixed knows_nil ok_lock_Lock_Ask (by simp) ?_
  simp [ic_lock_Lock_Ask, rs_lock_Lock_Ask]
theorem det_Grant0 (H : List AObj) : Det Try.prog 30 [.nilp] H (.tup [.int .i64 0, .bool false]) H := by
  refine det_fin0 mixed knows_nil ok_lock_Lock_Grant (by simp) ?_
  simp [ic_lock_Lock_Grant, rs_lock_Lock_Grant]
theorem det_Leave0 (H : List AObj) (t : Int) : Det Try.prog 32 [.nilp, .int .i64 t] H (.int .i64 0) H := by
  refine det_fin0 mixed knows_nil ok_lock_Lock_Leave (by simp) ?_
  simp [ic_lock_Lock_Leave, rs_lock_Lock_Leave]
theorem det_Head0 (H : List AObj) : Det Try.prog 34 [.nilp] H (.tup [.int .i64 0, .bool false]) H := by
  refine det_fin0 mixed knows_nil ok_lock_Lock_Head (by simp) ?_
  simp [ic_lock_Lock_Head, rs_lock_Lock_Head]
theorem det_View0 : Det Try.prog 36 [.nilp] [] (vL 0 0 []) [] := by
  refine det_finF mixed knows_nil ok_lock_Lock_View 2 (by simp) ?_
  simp [ic_lock_Lock_View, rs_lock_Lock_View, vL]
def cAskF : Ctr := ⟨fun a H => ∃ t, a = [.nilp, .int .i64 t] ∨ (isLk H ∧ a = [.ptr 2 0 0, .int .i64 t]), fun a H => match a with | [.nilp, _] => .int .i64 9 | _ => .int .i64 ((unLk H).ask (numOf (nth a 1 .any))).1,
  fun a H => match a with | [.nilp, _] => H | _ => HLk ((unLk H).ask (numOf (nth a 1 .any))).2 (H.drop 3)⟩
theorem known_AskF : Known Try.prog 28 cAskF := by
  rintro args H ⟨t, rfl | ⟨⟨l, rest, rfl, hok⟩, rfl⟩⟩
  · exact det_Ask0 H t
  · simp only [cAskF, unLk_HLk hok]
    exact det_Ask hok t rest
def cGrantF : Ctr := ⟨fun a H => a = [.nilp] ∨ (isLk H ∧ a = [.ptr 2 0 0]), fun a H => match a with | [.nilp] => .tup [.int .i64 0, .bool false] | _ => (unLk H).grant.1, fun a H => match a with | [.nilp] => H | _ => HLk (unLk H).grant.2 (H.drop 3)⟩
theorem known_GrantF : Known Try.prog 30 cGrantF := by
  rintro args H (rfl | ⟨⟨l, rest, rfl, hok⟩, rfl⟩)
  · exact det_Grant0 H
  · simp only [cGrantF, unLk_HLk hok]
    exact det_Grant hok rest
def cLeaveF : Ctr := ⟨fun a H => ∃ t, a = [.nilp, .int .i64 t] ∨ (isLk H ∧ a = [.ptr 2 0 0, .int .i64 t]), fun a H => match a with | [.nilp, _] => .int .i64 0 | _ => .int .i64 ((unLk H).leave (numOf (nth a 1 .any))).1,
  fun a H => match a with | [.nilp, _] => H | _ => HLk ((unLk H).leave (numOf (nth a 1 .any))).2 (H.drop 3)⟩
theorem known_LeaveF : Known Try.prog 32 cLeaveF := by
  rintro args H ⟨t, rfl | ⟨⟨l, rest, rfl, hok⟩, rfl⟩⟩
  · exact det_Leave0 H t
  · simp only [cLeaveF, unLk_HLk hok]
    exact det_Leave hok t rest
def cHeadF : Ctr := pureH (fun a H => a = [.nilp]) (fun a H => .tup [.int .i64 0, .bool false])
theorem known_HeadF : Known Try.prog 34 cHeadF := by
  rintro args H rfl
  exact det_Head0 H
def cViewF : Ctr := pureH (fun a H => a = [.nilp] ∨ (isLk H ∧ a = [.ptr 2 0 0])) (fun a H => match a with | [.nilp] => vL 0 0 [] | _ => vL (unLk H).id (unLk H).holder (unLk H).q.all)
theorem known_ViewF : Known Try.prog 36 cViewF := by
  rintro args H (rfl | ⟨⟨l, rest, rfl, hok⟩, rfl⟩)
  · exact det_View0.pure (fun y hy => by simp at hy; subst hy; exact .nilp) (closed_vL _ _ _) H
  · simp only [cViewF, pureH, unLk_HLk hok]
    exact det_View' hok rest
def ΓF : FuncId → Ctr := Γof [(26, cAlive), (27, cLockNew), (28, cAskF), (30, cGrantF), (32, cLeaveF), (34, cHeadF), (36, cViewF)]
@[simp] theorem gF_0 : ΓF 26 = cAlive := rfl
@[simp] theorem gF_1 : ΓF 27 = cLockNew := rfl
@[simp] theorem gF_2 : ΓF 28 = cAskF := rfl
@[simp] theorem gF_3 : ΓF 30 = cGrantF := rfl
@[simp] theorem gF_4 : ΓF 32 = cLeaveF := rfl
@[simp] theorem gF_5 : ΓF 34 = cHeadF := rfl
@[simp] theorem gF_6 : ΓF 36 = cViewF := rfl
theorem knowsF : Knows Try.prog ΓF := knows_cons known_Alive19 (knows_cons known_LockNew (knows_cons known_AskF (knows_cons known_GrantF (knows_cons known_LeaveF (knows_cons known_HeadF (knows_cons known_ViewF knows_nil))))))
/-- Behind a leave: who left neither holds nor waits. -/
theorem leftL {l : L} (h : l.ok) {t : Int} (ht : 0 < t) : (l.leave t).2.holder ≠ t ∧ t ∉ (l.leave t).2.q.all := by
  obtain ⟨ok1, _, _, h1, a1⟩ := leave_law h t
  rw [h1, a1]
  by_cases hc : l.holder = t
  · simp only [ht, hc, and_self, if_true]
    exact ⟨by omega, fun hm => h.free t hm hc.symm⟩
  · simp only [hc, and_false, if_false]
    exact ⟨hc, fun hm => (h.q.nodup.mem_erase_iff.1 hm).1 rfl⟩
def stM (acts : List (Int × Int)) (mine : Int) (a : Nat × L) : AS := ⟨[(5, .ptr 2 0 0), (6, .int .i64 mine), (7, .nils), (30, vA acts), (31, .int .i64 acts.length), (32, .int .i64 a.1)], HLk a.2 []⟩
theorem stM_low (acts : List (Int × Int)) (mine : Int) (b : Nat × L) : lowTm (stM acts mine b).hp.length (stM acts mine b).tm ∧ ∀ o ∈ (stM acts mine b).hp, LowO (stM acts mine b).hp.length o :=
  ⟨lowTm_cons (low_ptr (by simp [stM])) (lowTm_cons (low_closed (closed_int _ _)) (lowTm_cons (low_closed .nils) (lowTm_cons (low_closed (closed_vA _)) (lowTm_cons (low_closed (closed_int _ _)) (lowTm_cons (low_closed (closed_int _ _)) (lowTm_nil _)))))), low_HLk b.2⟩
def stN (A : List Int) (a : Nat × L) : AS := ⟨[(5, .ptr 2 0 0), (80, .sl 4 0 A.length), (81, .int .i64 A.length), (82, .int .i64 a.1)], HLk a.2 [.dead, .rows 1 (A.map rI)]⟩
theorem low_HLkR (l : L) (rest : List AObj) (m : Nat) (hm : 3 ≤ m) (h : ∀ o ∈ rest, LowO m o) : ∀ o ∈ HLk l rest, LowO m o := by
  intro o ho
  have e : HLk l rest = HLk l [] ++ rest := rfl
  rw [e, List.mem_append] at ho
  rcases ho with ho | ho
  · exact SeenO.mono (low_HLk l o ho) fun i j ⟨e, h⟩ => ⟨e, by omega⟩
  · exact h o ho
theorem low_rowsI (m : Nat) (A : List Int) : LowO m (.rows 1 (A.map rI)) := by
  refine .rows rfl (fun i r r' h1 h2 => by rw [h1] at h2; cases h2; rfl) fun i r r' j a b h1 h2 h3 h4 => ?_
  rw [h1] at h2; cases h2
  rw [h3] at h4; cases h4
  obtain ⟨x, _, rfl⟩ := List.mem_map.1 (List.mem_of_getElem? h1)
  have := List.mem_of_getElem? h3
  simp [rI] at this
  subst this
  exact .int _ _
theorem stN_low (A : List Int) (b : Nat × L) : lowTm (stN A b).hp.length (stN A b).tm ∧ ∀ o ∈ (stN A b).hp, LowO (stN A b).hp.length o :=
  ⟨lowTm_cons (low_ptr (by simp [stN])) (lowTm_cons (.sl ⟨rfl, by simp [stN]⟩) (lowTm_cons (low_closed (closed_int _ _)) (lowTm_cons (low_closed (closed_int _ _)) (lowTm_nil _)))), low_HLkR b.2 _ _ (by simp [stN]) (fun o ho => by
    simp at ho
    rcases ho with rfl | rfl
    · exact .dead _
    · exact low_rowsI _ _)⟩
def stI (A : List Int) (x : Int) (i : Nat) (l : L) (k : Nat) : AS := ⟨[(5, .ptr 2 0 0), (11, .int .i64 x), (12, .ptr 5 0 0), (80, .sl 4 0 A.length), (81, .int .i64 A.length), (82, .int .i64 i), (89, .view (l.q.all.map rI)), (90, .int .i64 l.q.all.length), (91, .int .i64 k)],
  HLk l [.dead, .rows 1 (A.map rI), .rows 3 [[.int .i64 l.id, .int .i64 l.holder, .view (l.q.all.map rI)]]]⟩
theorem stI_low (A : List Int) (x : Int) (i : Nat) (l : L) (k : Nat) : lowTm (stI A x i l k).hp.length (stI A x i l k).tm ∧ ∀ o ∈ (stI A x i l k).hp, LowO (stI A x i l k).hp.length o :=
  ⟨lowTm_cons (low_ptr (by simp [stI])) (lowTm_cons (low_closed (closed_int _ _)) (lowTm_cons (low_ptr (by simp [stI])) (lowTm_cons (.sl ⟨rfl, by simp [stI]⟩) (lowTm_cons (low_closed (closed_int _ _)) (lowTm_cons (low_closed (closed_int _ _)) (lowTm_cons (low_closed (closed_vI _)) (lowTm_cons (low_closed (closed_int _ _)) (lowTm_cons (low_closed (closed_int _ _)) (lowTm_nil _))))))))), low_HLkR l _ _ (by simp [stI]) (fun o ho => by
    simp at ho
    rcases ho with rfl | rfl | rfl
    · exact .dead _
    · exact low_rowsI _ _
    · refine .rows rfl (fun i r r' h1 h2 => by rw [h1] at h2; cases h2; rfl) fun i r r' j a b h1 h2 h3 h4 => ?_
      rw [h1] at h2; cases h2
      rw [h3] at h4; cases h4
      have e := List.mem_of_getElem? h1
      simp at e
      subst e
      have := List.mem_of_getElem? h3
      simp at this
      rcases this with rfl | rfl | rfl
      · exact .int _ _
      · exact .int _ _
      · exact low_closed (closed_vI _))⟩
set_option maxHeartbeats 4000000 in
theorem det_LockFair (acts : List (Int × Int)) (k : Int) (hk : 0 ≤ k ∧ k ≤ 255) : Det Try.prog 6 [vA acts, .int .u8 k] [] (.bool true) [] := by
  refine det_finF mixed knowsF ok_l19_LockFair 1 (by simp) ?_
  have k0 := newL_ok 1
  simp [ic_l19_LockFair, rs_l19_LockFair, cAlive, cLockNew, pureC, vA]
  intro hlen
  refine ⟨by omega, ?_⟩
  obtain ⟨mine, hm⟩ : ∃ mine, mine = 1 + k := ⟨_, rfl⟩
  rw [← hm]
  have hmp : 0 < mine := by omega
  refine ⟨⟨by omega, by omega⟩, ?_⟩
  refine LoopC.byF (stM acts mine) (fun b => b.2.ok ∧ b.1 ≤ acts.length) (fun b => acts.length - b.1) (0, ⟨newQ 64, 1, 0⟩) (fun b => Nat.zero_le _) (fun b _ => stM_low _ _ b) ?_ fun ⟨i, l⟩ ⟨hok, hi⟩ => ?_
  · exact ⟨by simp [stM, vA], ⟨[], rfl⟩, k0, Nat.zero_le _⟩
  · simp only at hok hi
    have hr := isLk_HLk hok.q
    have hu := unLk_HLk hok.q
    simp [stM, vA]
    refine ⟨fun hlt => ⟨hlt, ?_⟩, fun hge => ?_⟩
    · generalize nth acts i (0, 0) = act
      by_cases k1 : act.1 = 2
      · simp [rA, k1, cGrantF, hr, hu]
        exact ⟨by omega, (i + 1, l.grant.2), by simp; omega, by simp [stM, vA], ⟨_, rfl⟩, (grant_law hok).1, by simp; omega⟩
      · by_cases k2 : act.1 = 1 ∧ act.2 ≠ mine
        · simp [rA, k1, k2.1, k2.2, cAskF, hr, hu]
          exact ⟨by omega, (i + 1, (l.ask act.2).2), by simp; omega, by simp [stM, vA], ⟨_, rfl⟩, (ask_law hok act.2).1, by simp; omega⟩
        · by_cases k3 : act.1 = 1
          · have k4 : act.2 = mine := Classical.byContradiction fun h => k2 ⟨k3, h⟩
            simp [rA, k3, k4, cLeaveF, hr, hu]
            exact ⟨by omega, (i + 1, (l.leave mine).2), by simp; omega, by simp [stM, vA], ⟨_, rfl⟩, (leave_law hok mine).1, by simp; omega⟩
          · simp [rA, k1, k3, cLeaveF, hr, hu]
            exact ⟨by omega, (i + 1, (l.leave act.2).2), by simp; omega, by simp [stM, vA], ⟨_, rfl⟩, (leave_law hok act.2).1, by simp; omega⟩
    · obtain ⟨ok1, id1, v1, ho1, a1⟩ := leave_law hok mine
      obtain ⟨n1, n2⟩ := leftL hok hmp
      generalize hq1 : l.leave mine = p1 at *
      obtain ⟨w1, l1⟩ := p1
      simp only at ok1 n1 n2
      obtain ⟨ok2, id2, ho2, v2, a2⟩ := ask_law ok1 mine
      generalize hq2 : l1.ask mine = p2 at *
      obtain ⟨w2, l2⟩ := p2
      simp only at ok2 ho2 v2 a2
      have hr1 := isLk_HLk ok1.q
      have hu1 := unLk_HLk ok1.q
      have hnl := n_law ok1.q
      have hb1 := ok1.q.n1; have hb2 := ok1.room
      have c1 : ¬ mine < 1 := by omega
      have c2 : ¬ (l1.holder = mine ∨ mine ∈ l1.q.all) := by rintro (h | h); exact n1 h; exact n2 h
      simp only [c1, c2, if_false] at v2 a2
      by_cases h64 : 64 ≤ l1.q.all.length
      · simp only [h64, if_true] at v2 a2
        have h64' : l1.q.all.length = 64 := by omega
        rcases hall : l1.q.all with _ | ⟨y, ys⟩
        · rw [hall] at h64; simp at h64
        · rw [hall] at h64'
          simp at h64'
          simp [cLeaveF, cViewF, cAskF, pureH, hr, hu, hq1, hr1, hu1, hq2, vL, hall, v2, h64', cAlive, pureC, rI]
      · simp only [h64, if_false] at v2 a2
        have hr2 := isLk_HLk ok2.q
        have hu2 := unLk_HLk ok2.q
        have ha64 : l1.q.all.length < 64 := by omega
        have hA : l2.q.all.length ≤ 64 := by rw [a2]; simp; omega
        rcases hall : l1.q.all with _ | ⟨y, ys⟩
        all_goals rw [hall] at a2 ha64
        all_goals simp at ha64
        all_goals simp [cLeaveF, cViewF, cAskF, pureH, hr, hu, hq1, hr1, hu1, hq2, vL, hall, v2]
        all_goals try refine ⟨by omega, by omega, ?_⟩
        all_goals refine LoopC.byF (stN l2.q.all) (fun b => b.2.ok ∧ b.1 ≤ l2.q.all.length ∧ b.2.q.all = l2.q.all.drop b.1) (fun b => l2.q.all.length - b.1) (0, l2) (fun b => Nat.zero_le _) (fun b _ => stN_low _ b) ?_ fun ⟨i, l⟩ ⟨hok, hi, hd⟩ => ?_
        all_goals first | exact ⟨by simp [stN, a2], ⟨[], by simp [stN, a2, rI]⟩, ok2, Nat.zero_le _, rfl⟩ | skip
        all_goals (
          clear a2 ha64 hall
          simp only at hok hi hd
          have hrl := isLk_HLk hok.q
          have hul := unLk_HLk hok.q
          by_cases hlt : i < l2.q.all.length
          · obtain ⟨x, hx⟩ : ∃ x, nth l2.q.all i 0 = x := ⟨_, rfl⟩
            have hal : l.q.all = x :: l2.q.all.drop (i + 1) := by
              rw [hd, ← hx, nth_getElem hlt]; exact List.drop_eq_getElem_cons hlt
            have hqs : l.q.all.length ≤ 64 := by rw [hd]; simp; omega
            simp [stN, hlt, hx, cViewF, pureH, hrl, hul, vL]
            refine LoopC.byF (stI l2.q.all x i l) (fun k => k ≤ l.q.all.length) (fun k => l.q.all.length - k) 0 (fun b => Nat.zero_le _) (fun b _ => stI_low _ _ _ _ b) ?_ fun k hk => ?_
            · exact ⟨by simp [stI], ⟨[], by simp [stI]⟩, Nat.zero_le _⟩
            · by_cases hkl : k < l.q.all.length
              · have hfree : nth l.q.all k 0 ≠ l.holder := by rw [nth_getElem hkl]; exact hok.free _ (List.getElem_mem hkl)
                simp [stI, hkl, hfree]
                exact ⟨by omega, k + 1, by simp only; omega, ⟨by simp [stI], ⟨[], by simp [stI]⟩, by omega⟩⟩
              · have hke : k = l.q.all.length := by omega
                by_cases hh : 0 < l.holder
                · obtain ⟨ok3, id3, v3, ho3, a3⟩ := leave_law hok l.holder
                  generalize hq3 : l.leave l.holder = p3 at *
                  obtain ⟨w3, l3⟩ := p3
                  simp only [hh, and_self, if_true] at ok3 v3 ho3 a3
                  obtain ⟨ok4, id4, v4, ho4, a4⟩ := grant_law ok3
                  generalize hq4 : l3.grant = p4 at *
                  obtain ⟨w4, l4⟩ := p4
                  have hr3 := isLk_HLk ok3.q
                  have hu3 := unLk_HLk ok3.q
                  simp only [ho3, a3, hal, ne_eq, not_true, if_false, List.tail_cons] at ok4 v4 ho4 a4
                  simp [stI, hkl, hh, cLeaveF, cGrantF, hrl, hul, hq3, hr3, hu3, hq4, v3, v4]
                  exact ⟨by omega, (i + 1, l4), by simp; omega, by simp [stN], ⟨_, rfl⟩, ok4, by simp; omega, a4⟩
                · have hz : l.holder = 0 := by have := hok.h0; omega
                  obtain ⟨ok4, id4, v4, ho4, a4⟩ := grant_law hok
                  generalize hq4 : l.grant = p4 at *
                  obtain ⟨w4, l4⟩ := p4
                  simp only [hz, hal, ne_eq, not_true, if_false, List.tail_cons] at ok4 v4 ho4 a4
                  simp [stI, hkl, hz, cLeaveF, cGrantF, hrl, hul, hq4, v4]
                  exact ⟨by omega, (i + 1, l4), by simp; omega, by simp [stN], ⟨_, rfl⟩, ok4, by simp; omega, a4⟩
          · have hie : i = l2.q.all.length := by omega
            have hal : l.q.all = [] := by rw [hd]; exact List.drop_of_length_le (by omega)
            simp [stN, hlt, cViewF, cGrantF, cHeadF, cAskF, cLeaveF, cAlive, pureC, pureH, hrl, hul, vL, hal])
end Go.Proofs.Ytphkdomiehboaaa.Sx
