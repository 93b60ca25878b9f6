/- TaskWants. No conditions: a kit of our own. -/
import Derived.Test.YtfjidignjjaihaaFnTa1
namespace Go.Proofs.Ytfjidignjjaihaa.Sx
open Go Go.RowKit
set_option linter.unusedVariables false
set_option linter.unusedSimpArgs false

theorem hasW_more {a b m : BitVec 64} (h : hasW a b = true) : hasW (a ||| m) b = true := by
  simp only [hasW, decide_eq_true_eq] at h ⊢
  have key : ∀ i : Nat, (b &&& ~~~a).getLsbD i = false := fun i => by rw [h]; simp
  apply BitVec.eq_of_getLsbD_eq
  intro i hi
  have := key i
  simp [hi] at this ⊢
  intro h1
  simp [this h1]
theorem specErr_small {x : Spec} (h : specErr x = 0) : small x.From 1000 = true ∧ small x.To 1000 = true := by
  unfold specErr at h
  split at h
  · cases h
  · rename_i hc
    simp at hc
    exact ⟨hc.1.2, hc.2⟩
theorem rulErr_plan {r : Rul} (h : rulErr r = 0) : planOk r.Aisles = true := by
  unfold rulErr at h
  split at h
  · split at h
    · assumption
    · cases h
  · cases h
theorem rise_prev {L : List Int} (h : L.Pairwise (· < ·)) {i : Nat} (h0 : 0 < i) (hi : i < L.length) : nth L (i - 1) 0 < nth L i 0 := by
  rw [nth_get hi, nth_get (by omega : i - 1 < L.length)]
  exact List.pairwise_iff_getElem.1 h (i - 1) i (by omega) hi (by omega)
theorem orW (w m : BitVec 64) : IntKind.u64.wrap ((w.toNat % 2 ^ IntKind.u64.bits ||| m.toNat % 2 ^ IntKind.u64.bits : Nat) : Int) = ((w ||| m).toNat : Int) := by
  have e1 : w.toNat % 2 ^ IntKind.u64.bits = w.toNat := Nat.mod_eq_of_lt w.isLt
  have e2 : m.toNat % 2 ^ IntKind.u64.bits = m.toNat := Nat.mod_eq_of_lt m.isLt
  have hw : ∀ n : Nat, n < 18446744073709551616 → IntKind.u64.wrap (n : Int) = n := fun n h => by
    simp [IntKind.wrap, IntKind.signed, IntKind.bits]; omega
  rw [e1, e2, ← BitVec.toNat_or, hw _ (w ||| m).isLt]
theorem ofW (w : BitVec 64) : BitVec.ofInt 64 (w.toNat : Int) = w := by
  apply BitVec.eq_of_toNat_eq
  have := w.isLt
  rw [BitVec.toNat_ofInt]; omega
theorem fits_more1 {x : Spec} {w u : BitVec 64} (m : BitVec 64) (h : fitsX x w u = true) : fitsX x (w ||| m) u = true := by
  simp only [fitsX, Bool.and_eq_true] at h ⊢
  exact ⟨hasW_more h.1, h.2⟩
theorem fits_more2 {x : Spec} {w u : BitVec 64} (m : BitVec 64) (h : fitsX x w u = true) : fitsX x w (u ||| m) = true := by
  simp only [fitsX, Bool.and_eq_true] at h ⊢
  exact ⟨h.1, hasW_more h.2⟩
attribute [local irreducible] crossL specErr rulErr atL planOk fitsX
set_option maxRecDepth 40000 in
set_option maxHeartbeats 8000000 in
theorem det_TaskWants (r : Rul) (wr : Rd.wf r) (x : Spec) (wx : Rd.wf x) (w : BitVec 64) (ww : Rd.wf w) (m : BitVec 64) (wm : Rd.wf m) (u : BitVec 64) (wu : Rd.wf u) (hs : x.After.length ≤ 1048576) : Det Try.prog 6 [en r, en x, en w, en m, en u] [] (.bool true) [] := by
  refine det_finF mixed0 (knows_cons known_22alive (knows_cons known_TaskCheck (knows_cons known_R22Check (knows_cons known_task_Rules (knows_cons known_r22_Rules (knows_cons known_Want (knows_cons known_PlanAt (knows_cons known_r07_Right (knows_cons known_TaskFits knows_nil))))))))) ok_l22_TaskWants 1 (by simp) ?_
  have hx : x.After.length ≤ 9223372036854775807 := by omega
  have hx2 : x.After.length ≤ 1073741824 := by omega
  have hr : r.Aisles.length ≤ 9223372036854775807 := by simp at wr; omega
  clear wr wx
  by_cases hg : r.Aisles.length ≤ 40 ∧ rulErr r = 0 ∧ specErr x = 0
  · obtain ⟨g1, g2, g3⟩ := hg
    have g1' : ¬ 40 < r.Aisles.length := by omega
    have hr2 : r.Aisles.length ≤ 1073741824 := by omega
    obtain ⟨s1, s2⟩ := specErr_small g3
    have hp := rulErr_plan g2
    have hL := crossL_len r.Aisles x.From x.To 0
    have hR := rise_crossL r.Aisles x.From x.To 0
    have hM := fun n => @mem_crossL r.Aisles x.From x.To 0 n
    have hE : ∀ c, c = x.From ∨ c = x.To → ∀ n, atL r.Aisles c = (n, true) → n ∈ crossL r.Aisles x.From x.To 0 := fun c hc n h => at_cross 0 hc s1 s2 h
    simp [ic_l22_TaskWants, rs_l22_TaskWants, cTaskCheck, cSpecErr, cRules, cWant, vcLoose, heapsOf, hx, hx2, hr, hr2, g1, g1', g2, g3]
    generalize crossL r.Aisles x.From x.To 0 = L at *
    refine LoopC.scanB (0 : Int) L (fun i (_ : Unit) => ⟨[(2, .int .u64 w.toNat), (3, .int .u64 m.toNat), (4, .int .u64 u.toNat), (5, .ptr 0 0 0), (6, .ptr 1 0 0), (11, .view (L.map Cel.c)), (52, .view (L.map Cel.c)), (53, .int .i64 L.length), (54, .int .i64 i)], [.rows 8 [Cel.c r], .rows 9 [Cel.c x]]⟩) (fun i _ _ => True) () (by simp) (by simp) trivial (fun i id rest _ hi hid hd _ => ?_) fun _ _ => ?_
    · have hmem : id ∈ L := by rw [← hid, nth_get hi]; exact List.getElem_mem hi
      obtain ⟨a0, ha0, _, hid0⟩ := (hM id).1 hmem
      simp [hi, hid]
      refine LoopC.scanB Ais.zero r.Aisles (fun k (t : Bool) => ⟨[(2, .int .u64 w.toNat), (3, .int .u64 m.toNat), (4, .int .u64 u.toNat), (5, .ptr 0 0 0), (6, .ptr 1 0 0), (11, .view (L.map Cel.c)), (12, .int .i64 i), (13, .int .i64 id), (14, .bool t), (52, .view (L.map Cel.c)), (53, .int .i64 L.length), (54, .int .i64 i), (60, .view (r.Aisles.map Cel.c)), (61, .int .i64 r.Aisles.length), (62, .int .i64 k)], [.rows 8 [Cel.c r], .rows 9 [Cel.c x]]⟩) (fun k t rs => t = true ∨ ∃ a ∈ rs, a.ID = id) false (by simp) (by simp) (.inr ⟨a0, ha0, hid0⟩) (fun k a rs t hk ha hdk hG => ?_) fun t hG => ?_
      · simp [hi, hk, ha, vcLoose]
        refine ⟨by omega, ?_⟩
        cases t
        · by_cases e : a.ID = id
          · exact .inr (.inr e)
          · refine .inl ⟨⟨rfl, e⟩, ?_⟩
            rcases hG with h | ⟨a', h1, h2⟩
            · cases h
            · rcases List.mem_cons.1 h1 with rfl | h1
              · exact absurd h2 e
              · exact ⟨a', h1, h2⟩
        · exact .inr (.inl rfl)
      · have ht : t = true := by simpa using hG
        subst ht
        by_cases h0 : 0 < i
        · have := rise_prev hR h0 hi
          rw [hid] at this
          simp [hi, h0]
          exact ⟨by omega, by omega, this, fun _ => by omega⟩
        · simp [hi, h0]
          omega
    · simp
      obtain ⟨P, hP⟩ : ∃ P, P = [x.From, x.To] := ⟨_, rfl⟩
      have hPl : P.length = 2 := by rw [hP]; rfl
      have hPl' : (P.length : Int) = 2 := by rw [hPl]; rfl
      refine LoopC.scanB Pt.zero P (fun i (_ : Unit) => ⟨[(2, .int .u64 w.toNat), (3, .int .u64 m.toNat), (4, .int .u64 u.toNat), (5, .ptr 0 0 0), (6, .ptr 1 0 0), (11, .view (L.map Cel.c)), (94, .view (P.map Cel.c)), (95, .int .i64 2), (96, .int .i64 i)], [.rows 8 [Cel.c r], .rows 9 [Cel.c x]]⟩) (fun i _ _ => True) () (by simp) (by simp [hP]) trivial (fun i p rest _ hi hp hd _ => ?_) fun _ _ => ?_
      · have hpm : p = x.From ∨ p = x.To := by
          have : p ∈ P := by rw [← hp, nth_get hi]; exact List.getElem_mem hi
          rw [hP] at this
          simpa using this
        have hi2 : i < 2 := by rw [← hPl]; exact hi
        cases hat : atL r.Aisles p with
        | mk n is =>
          cases is
          · simp [hi, hi2, hp, cPlanAt, hr, hat, vcLoose, heapsOf]
            omega
          · have hmem := hE p hpm n hat
            simp [hi, hi2, hp, cPlanAt, hr, hat, vcLoose, heapsOf]
            refine LoopC.scanB (0 : Int) L (fun k (t : Bool) => ⟨[(2, .int .u64 w.toNat), (3, .int .u64 m.toNat), (4, .int .u64 u.toNat), (5, .ptr 0 0 0), (6, .ptr 1 0 0), (11, .view (L.map Cel.c)), (19, .int .i64 n), (21, .bool t), (94, .view (P.map Cel.c)), (95, .int .i64 2), (96, .int .i64 i), (108, .view (L.map Cel.c)), (109, .int .i64 L.length), (110, .int .i64 k)], [.rows 8 [Cel.c r], .rows 9 [Cel.c x]]⟩) (fun k t rs => t = true ∨ n ∈ rs) false (by simp) (by simp) (.inr hmem) (fun k a rs t hk ha hdk hG => ?_) fun t hG => ?_
            · simp [hi, hi2, hk, ha, vcLoose]
              refine ⟨by omega, ?_⟩
              cases t
              · by_cases e : a = n
                · exact .inr (.inr e)
                · refine .inl ⟨⟨rfl, e⟩, ?_⟩
                  rcases hG with h | h1
                  · cases h
                  · rcases List.mem_cons.1 h1 with rfl | h1
                    · exact absurd rfl e
                    · exact h1
              · exact .inr (.inl rfl)
            · have ht : t = true := by simpa using hG
              subst ht
              simp [hi2]
              omega
      · have hL' : ¬ r.Aisles.length < L.length := by omega
        simp [hL', cPlanRight, hr, hp, cFitsX, c22Alive, vcLoose, heapsOf]
        simp only [orW, ofW]
        have l1 := (w ||| m).isLt
        have l2 := (u ||| m).isLt
        refine ⟨by omega, fun _ => ⟨fun _ => by omega, fun _ _ => by omega, ?_⟩⟩
        cases hfx : fitsX x w u
        · exact .inl rfl
        · exact .inr ⟨fits_more1 m hfx, fits_more2 m hfx⟩
  · simp [ic_l22_TaskWants, rs_l22_TaskWants, c22Alive, cTaskCheck, cSpecErr, cRules, cWant, vcLoose, heapsOf, hx, hx2, hr]
    exact fun a b c => absurd ⟨a, b, c⟩ hg
end Go.Proofs.Ytfjidignjjaihaa.Sx
