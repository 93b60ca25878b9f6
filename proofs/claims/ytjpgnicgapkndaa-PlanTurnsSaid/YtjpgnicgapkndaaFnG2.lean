/- Package plan: a way, step by step, as complex numbers. No conditions: a kit of our own. -/
import Derived.Test.YtjpgnicgapkndaaFnG1
namespace Go.Proofs.Ytjpgnicgapkndaa.Sx
open Go Go.RowKit
set_option linter.unusedVariables false
set_option linter.unusedSimpArgs false

def sgnI (n : Int) : Int := if n < 0 then -1 else if 0 < n then 1 else 0
theorem sgnI_le (n : Int) : -1 ≤ sgnI n ∧ sgnI n ≤ 1 := by unfold sgnI; split <;> (try split) <;> omega
theorem sgn_spec (n : Int) : (n < 0 ∧ sgnI n = -1) ∨ (n = 0 ∧ sgnI n = 0) ∨ (0 < n ∧ sgnI n = 1) := by
  unfold sgnI
  by_cases h : n < 0
  · rw [if_pos h]; exact .inl ⟨h, rfl⟩
  · rw [if_neg h]
    by_cases h2 : 0 < n
    · rw [if_pos h2]; exact .inr (.inr ⟨h2, rfl⟩)
    · rw [if_neg h2]; exact .inr (.inl ⟨by omega, rfl⟩)
theorem tow_eq (n t : Int) : towI n t = n + sgnI (t - n) := by
  have := sgn_spec (t - n)
  unfold towI
  split <;> (try split) <;> omega
theorem tdiv_sgn {d : Int} (h : d ≠ 0) : d.tdiv (absI d) = sgnI d := by
  unfold absI sgnI
  by_cases h0 : d < 0
  · rw [if_pos h0, show max d (-d) = -d by omega, Int.tdiv_neg, Int.tdiv_self h]
  · rw [if_neg h0, if_pos (by omega), show max d (-d) = d by omega, Int.tdiv_self h]
theorem det_plan_unit (p q : Pt) (hp : inW p) (hq : inW q) (hs : p.X = q.X ∨ p.Y = q.Y) : Det Try.prog 37 [en p, en q] [] (en (⟨fI (sgnI (q.X - p.X)), fI (sgnI (q.Y - p.Y))⟩ : Cx)) [] := by
  refine det_finF mixed0 (knows_cons known_GSub (knows_cons known_GSteps knows_nil)) ok_plan_unit 1 (by simp) ?_
  unfold inW at hp hq
  have e1 : subP q p = ⟨q.X - p.X, q.Y - p.Y⟩ := by
    simp only [subP, farI_in (show -1048576 ≤ q.X by omega) (by omega), farI_in (show -1048576 ≤ q.Y by omega) (by omega), farI_in (show -1048576 ≤ p.X by omega) (by omega), farI_in (show -1048576 ≤ p.Y by omega) (by omega)]
  have e2 : stepsP ⟨q.X - p.X, q.Y - p.Y⟩ = absI (q.X - p.X) + absI (q.Y - p.Y) := by
    simp only [stepsP, farI_in (show -1048576 ≤ q.X - p.X by omega) (by omega), farI_in (show -1048576 ≤ q.Y - p.Y by omega) (by omega)]
  have f0 : fI 0 = 0 := by rw [fI_eq]; decide
  generalize hdx : q.X - p.X = dx at *
  generalize hdy : q.Y - p.Y = dy at *
  have z0 : absI 0 = 0 := rfl
  have s0 : sgnI 0 = 0 := rfl
  have pos : ∀ d : Int, d ≠ 0 → 0 < absI d := fun d h => by unfold absI; omega
  have lim : ∀ d : Int, -2000 ≤ d → d ≤ 2000 → absI d ≤ 2000 := fun d h h' => by unfold absI; omega
  by_cases hx : dx = 0
  · by_cases hy : dy = 0
    · subst hx; subst hy
      simp [ic_plan_unit, rs_plan_unit, cGSub, cGSteps, e1, e2, z0, s0, f0]
    · subst hx
      have p1 := pos dy hy
      have p2 : ¬ absI dy = 0 := by omega
      have p3 := lim dy (by omega) (by omega)
      have k1 := tdiv_sgn hy
      have u1 := sgnI_le dy
      simp [ic_plan_unit, rs_plan_unit, cGSub, cGSteps, e1, e2, z0, s0, p2, k1, vcLoose, heapsOf]
      omega
  · have hy : dy = 0 := by omega
    subst hy
    have p1 := pos dx hx
    have p2 : ¬ absI dx = 0 := by omega
    have p3 := lim dx (by omega) (by omega)
    have k1 := tdiv_sgn hx
    have u1 := sgnI_le dx
    simp [ic_plan_unit, rs_plan_unit, cGSub, cGSteps, e1, e2, z0, s0, p2, k1, vcLoose, heapsOf]
    omega
/-- .. -/ noncomputable def cUnit : Ctr := V2 (fun p q : Pt => inW p ∧ inW q ∧ (p.X = q.X ∨ p.Y = q.Y)) fun p q => en (⟨fI (sgnI (q.X - p.X)), fI (sgnI (q.Y - p.Y))⟩ : Cx)
theorem known_Unit : Known Try.prog 37 cUnit := known_V2 (fun p q h => det_plan_unit p q h.1 h.2.1 h.2.2) fun p q _ => closed_en _
/-! ### the way -/
def onLeg (how : Int) (a b t : Pt) : Prop := (how = 1 ∧ t.X = a.X ∧ t.Y = b.Y) ∨ (how ≠ 1 ∧ t.Y = a.Y ∧ t.X = b.X) ∨ (t = b ∧ (how = 1 ∧ a.Y = b.Y ∨ how ≠ 1 ∧ a.X = b.X))
theorem leg_ne {how : Int} {a b t : Pt} (h : onLeg how a b t) (hne : ¬ a = t) : ¬ a = b := by
  intro e; subst e
  obtain ⟨ax, ay⟩ := a
  obtain ⟨tx, ty⟩ := t
  simp only [onLeg, Pt.mk.injEq] at *
  omega
theorem leg_step {how : Int} {a b t : Pt} (h : onLeg how a b t) (hne : ¬ a = t) : stepP how a b = ⟨a.X + sgnI (t.X - a.X), a.Y + sgnI (t.Y - a.Y)⟩ ∧ onLeg how (stepP how a b) b t ∧ (stepP how a b = t ∨ sgnI (t.X - (stepP how a b).X) = sgnI (t.X - a.X) ∧ sgnI (t.Y - (stepP how a b).Y) = sgnI (t.Y - a.Y)) := by
  obtain ⟨ax, ay⟩ := a
  obtain ⟨bx, bY⟩ := b
  obtain ⟨tx, ty⟩ := t
  simp only [onLeg, Pt.mk.injEq] at h hne ⊢
  have sx := sgn_spec (tx - ax)
  have sy := sgn_spec (ty - ay)
  have nx := sgn_spec (tx - (ax + sgnI (tx - ax)))
  have ny := sgn_spec (ty - (ay + sgnI (ty - ay)))
  have e : stepP how ⟨ax, ay⟩ ⟨bx, bY⟩ = ⟨ax + sgnI (tx - ax), ay + sgnI (ty - ay)⟩ := by
    clear nx ny
    simp only [stepP, tow_eq]
    rcases h with ⟨h1, h2, h3⟩ | ⟨h1, h2, h3⟩ | ⟨⟨h2, h3⟩, h1⟩
    · subst h2; subst h3
      have h4 : ¬ ay = ty := fun e => hne ⟨rfl, e⟩
      rw [if_neg (by simp [h1, h4])]
      simp [sgnI]
    · subst h2; subst h3
      have h4 : ¬ ax = tx := fun e => hne ⟨e, rfl⟩
      rw [if_pos (by simp [h1, h4])]
      simp [sgnI]
    · subst h2; subst h3
      rcases h1 with ⟨h1, h5⟩ | ⟨h1, h5⟩
      · subst h5
        rw [if_pos (by simp)]
        simp [sgnI]
      · subst h5
        have h4 : ¬ ay = ty := fun e => hne ⟨rfl, e⟩
        rw [if_neg (by simp [h4])]
        simp [sgnI]
  rw [e]
  simp only [Pt.mk.injEq]
  refine ⟨trivial, ?_, ?_⟩
  · rcases h with ⟨h1, h2, h3⟩ | ⟨h1, h2, h3⟩ | ⟨⟨h2, h3⟩, h1⟩
    · exact .inl ⟨h1, by omega, h3⟩
    · exact .inr (.inl ⟨h1, by omega, h3⟩)
    · exact .inr (.inr ⟨⟨h2, h3⟩, by rcases h1 with ⟨h1, h5⟩ | ⟨h1, h5⟩; exact .inl ⟨h1, by omega⟩; exact .inr ⟨h1, by omega⟩⟩)
  · clear e
    generalize sgnI (tx - (ax + sgnI (tx - ax))) = u at *
    generalize sgnI (ty - (ay + sgnI (ty - ay))) = w at *
    generalize sgnI (tx - ax) = u0 at *
    generalize sgnI (ty - ay) = w0 at *
    have hl : tx = ax ∨ ty = ay := by omega
    rcases hl with hl | hl <;> omega
@[simp] theorem nth_snocM {α β : Type} (f : α → β) (l : List α) (x : β) (d : β) : nth (l.map f ++ [x]) l.length d = x := by
  simp [nth, List.getD_eq_getElem?_getD]
set_option maxHeartbeats 4000000 in
theorem det_plan_Route (p q : Pt) (how : Int) : Det Try.prog 16 [en p, en q, en how] [] (en (wayL how (nearP p) (nearP q))) [] := by
  refine det_finF mixed0 (knows_cons known_Legs (knows_cons known_Unit knows_nil)) ok_plan_Route 2 (by simp) ?_
  have hP := inW_near p
  have hQ := inW_near q
  simp [ic_plan_Route, rs_plan_Route, cLegs, vcLoose, heapsOf]
  generalize nearP p = P at *
  generalize nearP q = Q at *
  have hB : inW (bendP P Q how) := by unfold bendP inW at *; split <;> simp only [] <;> omega
  have l1 : onLeg how P Q (bendP P Q how) := by unfold bendP onLeg; split <;> simp [*]
  have l2 : onLeg how (bendP P Q how) Q Q := by unfold bendP onLeg; split <;> simp [*]
  have q1 : P.X = (bendP P Q how).X ∨ P.Y = (bendP P Q how).Y := by unfold bendP; split <;> simp
  have q2 : (bendP P Q how).X = Q.X ∨ (bendP P Q how).Y = Q.Y := by unfold bendP; split <;> simp
  generalize bendP P Q how = B at *
  refine LoopC.genR (fun s : List Pt × Pt × Cx × Nat => ⟨[(10, .sl 0 0 (s.1.length + 1)), (11, .val (.complex .f64 s.2.2.1.re s.2.2.1.im)), (34, .agg [.int .i64 B.X, .int .i64 B.Y, .int .i64 Q.X, .int .i64 Q.Y]), (35, .int .i64 s.2.2.2)], [.rows 2 ((s.1 ++ [s.2.1]).map Cel.c)]⟩) (fun s => s.2.2.2 ≤ 2 ∧ inW s.2.1 ∧ RepC s.2.2.1 s.2.1.X s.2.1.Y ∧ wayL how P Q = s.1 ++ s.2.1 :: wayT how (distP s.2.1 Q) s.2.1 Q ∧ s.1.length + distP s.2.1 Q ≤ 4000 ∧ (s.2.2.2 = 0 → s.2.1 = P) ∧ (s.2.2.2 = 1 → s.2.1 = B) ∧ (s.2.2.2 = 2 → s.2.1 = Q)) (fun s => 2 - s.2.2.2) ([], P, ⟨fI P.X, fI P.Y⟩, 0) [5] ?_ ⟨by simp, hP, ⟨rep_fI (by unfold inW at hP; omega), rep_fI (by unfold inW at hP; omega)⟩, rfl, by have := dist_le hP hQ; simpa using this, by simp, by simp, by simp⟩ ?_
  · simp [atR]
    trace_state
  rintro ⟨o, a, z, i⟩ ⟨hi, ha, hz, hw, hl, i0, i1, i2⟩
  simp only at hi ha hz hw hl i0 i1 i2
  by_cases hlt : i < 2
  · obtain rfl | rfl : i = 0 ∨ i = 1 := by omega
    · have ea : P = a := (i0 rfl).symm
      subst ea
      simp [primV, rdv, cUnit, vcLoose, heapsOf, ha, hB, q1]
      refine ⟨by omega, by omega, ?_⟩
      refine LoopC.genR (fun s : List Pt × Pt × Cx => ⟨[(10, .sl 0 0 (s.1.length + 1)), (11, .val (.complex .f64 s.2.2.re s.2.2.im)), (13, .ptr 1 0 0), (14, .val (.complex .f64 (fI (sgnI (B.X - P.X))) (fI (sgnI (B.Y - P.Y))))), (34, .agg [.int .i64 B.X, .int .i64 B.Y, .int .i64 Q.X, .int .i64 Q.Y]), (35, .int .i64 0)], [.rows 2 ((s.1 ++ [s.2.1]).map Cel.c), .rows 2 [Cel.c B]]⟩) (fun s => inW s.2.1 ∧ RepC s.2.2 s.2.1.X s.2.1.Y ∧ wayL how P Q = s.1 ++ s.2.1 :: wayT how (distP s.2.1 Q) s.2.1 Q ∧ s.1.length + distP s.2.1 Q ≤ 4000 ∧ onLeg how s.2.1 Q B ∧ (s.2.1 = B ∨ sgnI (B.X - s.2.1.X) = sgnI (B.X - P.X) ∧ sgnI (B.Y - s.2.1.Y) = sgnI (B.Y - P.Y))) (fun s => distP s.2.1 Q) (o, P, z) [0, 1] ?_ ⟨ha, hz, hw, hl, l1, .inr ⟨rfl, rfl⟩⟩ ?_
      · simp [atR]
      rintro ⟨o2, a2, z2⟩ ⟨h1, h2, h3, h4, h5, h6⟩
      simp only at h1 h2 h3 h4 h5 h6
      by_cases he : a2 = B
      · subst he
        simp
        exact ⟨by omega, by omega, o2, a2, z2, 0 + 1, ⟨[0], by simp [atR]⟩, ⟨by omega, h1, h2, h3, h4, by simp, by simp, by simp⟩, by omega⟩
      · have hd := h6.resolve_left he
        obtain ⟨g1, g2, g3⟩ := leg_step h5 he
        have hne : ¬ a2 = Q := leg_ne h5 he
        have hs := step_dist (how := how) hne
        have hi2 := step_in (how := how) h1 hQ
        rw [← hs, wayT, if_neg hne] at h3
        rw [g1, hd.1, hd.2] at h3 hs hi2 g2 g3
        have u1 := sgnI_le (B.X - P.X)
        have u2 := sgnI_le (B.Y - P.Y)
        obtain ⟨r, hr, rr⟩ := repC_add (w := ⟨fI (sgnI (B.X - P.X)), fI (sgnI (B.Y - P.Y))⟩) h2 ⟨rep_fI (by omega), rep_fI (by omega)⟩ (by unfold inW at h1; omega) (by unfold inW at h1; omega)
        simp at hr
        have e1 := rep_to rr.1 (by unfold inW at h1; omega)
        have e2 := rep_to rr.2 (by unfold inW at h1; omega)
        simp [hr, e1, e2]
        exact ⟨by omega, by omega, fun _ => ⟨by omega, o2 ++ [a2], ⟨a2.X + sgnI (B.X - P.X), a2.Y + sgnI (B.Y - P.Y)⟩, r, ⟨[2, 1], by simp [atR]⟩, ⟨hi2, rr, by rw [h3]; simp, by simp; omega, g2, g3⟩, by omega⟩, fun e3 e4 => absurd (ext_Pt.2 ⟨e3, e4⟩) he⟩
    · have ea : B = a := (i1 rfl).symm
      subst ea
      simp [primV, rdv, cUnit, vcLoose, heapsOf, ha, hQ, q2]
      refine ⟨by omega, by omega, ?_⟩
      refine LoopC.genR (fun s : List Pt × Pt × Cx => ⟨[(10, .sl 0 0 (s.1.length + 1)), (11, .val (.complex .f64 s.2.2.re s.2.2.im)), (13, .ptr 1 0 0), (14, .val (.complex .f64 (fI (sgnI (Q.X - B.X))) (fI (sgnI (Q.Y - B.Y))))), (34, .agg [.int .i64 B.X, .int .i64 B.Y, .int .i64 Q.X, .int .i64 Q.Y]), (35, .int .i64 1)], [.rows 2 ((s.1 ++ [s.2.1]).map Cel.c), .rows 2 [Cel.c Q]]⟩) (fun s => inW s.2.1 ∧ RepC s.2.2 s.2.1.X s.2.1.Y ∧ wayL how P Q = s.1 ++ s.2.1 :: wayT how (distP s.2.1 Q) s.2.1 Q ∧ s.1.length + distP s.2.1 Q ≤ 4000 ∧ onLeg how s.2.1 Q Q ∧ (s.2.1 = Q ∨ sgnI (Q.X - s.2.1.X) = sgnI (Q.X - B.X) ∧ sgnI (Q.Y - s.2.1.Y) = sgnI (Q.Y - B.Y))) (fun s => distP s.2.1 Q) (o, B, z) [0, 1] ?_ ⟨ha, hz, hw, hl, l2, .inr ⟨rfl, rfl⟩⟩ ?_
      · simp [atR]
      rintro ⟨o2, a2, z2⟩ ⟨h1, h2, h3, h4, h5, h6⟩
      simp only at h1 h2 h3 h4 h5 h6
      by_cases he : a2 = Q
      · subst he
        simp
        exact ⟨by omega, by omega, o2, a2, z2, 1 + 1, ⟨[0], by simp [atR]⟩, ⟨by omega, h1, h2, h3, h4, by simp, by simp, by simp⟩, by omega⟩
      · have hd := h6.resolve_left he
        obtain ⟨g1, g2, g3⟩ := leg_step h5 he
        have hne : ¬ a2 = Q := leg_ne h5 he
        have hs := step_dist (how := how) hne
        have hi2 := step_in (how := how) h1 hQ
        rw [← hs, wayT, if_neg hne] at h3
        rw [g1, hd.1, hd.2] at h3 hs hi2 g2 g3
        have u1 := sgnI_le (Q.X - B.X)
        have u2 := sgnI_le (Q.Y - B.Y)
        obtain ⟨r, hr, rr⟩ := repC_add (w := ⟨fI (sgnI (Q.X - B.X)), fI (sgnI (Q.Y - B.Y))⟩) h2 ⟨rep_fI (by omega), rep_fI (by omega)⟩ (by unfold inW at h1; omega) (by unfold inW at h1; omega)
        simp at hr
        have e1 := rep_to rr.1 (by unfold inW at h1; omega)
        have e2 := rep_to rr.2 (by unfold inW at h1; omega)
        simp [hr, e1, e2]
        exact ⟨by omega, by omega, fun _ => ⟨by omega, o2 ++ [a2], ⟨a2.X + sgnI (Q.X - B.X), a2.Y + sgnI (Q.Y - B.Y)⟩, r, ⟨[2, 1], by simp [atR]⟩, ⟨hi2, rr, by rw [h3]; simp, by simp; omega, g2, g3⟩, by omega⟩, fun e3 e4 => absurd (ext_Pt.2 ⟨e3, e4⟩) he⟩
  · have hi2 : i = 2 := by omega
    subst hi2
    have ea : Q = a := (i2 rfl).symm
    subst ea
    have e0 : distP Q Q = 0 := by simp [distP]
    rw [e0, wayT] at hw
    simp [hw]
    rintro row (⟨c, _, rfl⟩ | rfl) v hv <;> simp at hv <;> rcases hv with rfl | rfl <;> simp
def cRoute : Ctr := V3 (fun (p q : Pt) (how : Int) => True) fun p q how => en (wayL how (nearP p) (nearP q))
theorem known_Route : Known Try.prog 16 cRoute := known_V3 (fun p q how _ => det_plan_Route p q how) fun p q how _ => closed_en _
end Go.Proofs.Ytjpgnicgapkndaa.Sx
