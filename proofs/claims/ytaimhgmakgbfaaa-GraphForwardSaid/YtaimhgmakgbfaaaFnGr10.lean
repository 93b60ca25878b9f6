/- Laws of graphs: the document's reach, what must come at any rate, orders, reach and levels. No conditions: a kit of our own. -/
import Derived.Test.YtaimhgmakgbfaaaFnGr9
import Derived.Test.YtaimhgmakgbfaaaFnI2
namespace Go.Proofs.Ytaimhgmakgbfaaa.Sx
open Go Go.RowKit
open Hp (mget mput mdel HpS)
set_option linter.unusedVariables false
set_option linter.unusedSimpArgs false

theorem rout_len {N : List Int} {A : List Arc} {F out : List Int} (h : Gr.ROut N A F out) : out.length ≤ N.length := Gr.nodup_len h.nd fun x hx => (h.rc x hx).node
set_option maxHeartbeats 8000000 in
theorem det_r16_Reach (ids : List Int) (A : List Arc) (F : List Int) (hi : ids.length ≤ 536870912) (hA : A.length ≤ 1073741823) (hF : F.length ≤ 1073741823) : Det Try.prog 26 [en ids, en A, en F] [] (en (reachO (setL ids) A F)) [] := by
  have hN := rise_setL ids
  have hl := setL_len ids
  refine det_finF mixed0 (knows_cons known_R16SetN (knows_cons known_In knows_nil)) ok_r16_Reach 2 (by simp) ?_
  simp [ic_r16_Reach, rs_r16_Reach, cR16SetN, hi]
  have hro : reachO (setL ids) A F = setL (Gr.rnds (setL ids) A (setL ids).length ((setL ids).filter fun n => decide (n ∈ F))) := rfl
  generalize reachO (setL ids) A F = res at *
  generalize setL ids = N at *
  have hnd : N.Nodup := hN.imp fun h => by omega
  have hl' : N.length ≤ 536870912 := by omega
  have hl2 : N.length ≤ 9223372036854775807 := by omega
  have hF' : F.length ≤ 9223372036854775807 := by omega
  have hro0 := Gr.rout_begin N A F hnd
  refine LoopC.scanR (0 : Int) N (fun i (b : List Int) => ⟨[(1, .view (A.map Cel.c)), (2, .view (F.map Cel.c)), (7, .view (N.map Cel.c)), (8, bs 0 (b.map Cel.c)), (9, .int .i64 i)], [bob 1 (b.map Cel.c)]⟩)
    (fun i b r => eqL b ((N.take i).filter fun n => decide (n ∈ F))) [] [0] (by simp [atR, gOk, cvw]) rfl (fun i a r b hi' ha hd hG => ?_) fun b hG => ?_
  · unfold eqL at hG
    have hb : b.length ≤ i := by
      rw [hG]
      have := List.length_filter_le (fun n => decide (n ∈ F)) (N.take i)
      simp at this ⊢; omega
    have hft := filter_take (fun n => decide (n ∈ F)) hi'
    rw [ha, ← hG] at hft
    by_cases hnt : a ∈ F
    · simp only [hnt, decide_true, if_true] at hft
      simp [hi', ha, cIn, hF', hnt]
      refine ⟨by omega, by omega, b ++ [a], ⟨[1], by simp [atR, gOk, cvw]⟩, hft.symm⟩
    · simp only [hnt, decide_false, Bool.false_eq_true, if_false, List.append_nil] at hft
      simp [hi', ha, cIn, hF', hnt]
      refine ⟨by omega, b, ⟨[0], by simp [atR, gOk, cvw]⟩, hft.symm⟩
  · unfold eqL at hG
    rw [List.take_length] at hG
    have hb0 : Gr.ROut N A F b := by rw [hG]; exact hro0
    rw [← hG] at hro
    simp
    refine LoopC.scanR (0 : Int) N (fun i (b : List Int) => ⟨[(1, .view (A.map Cel.c)), (7, .view (N.map Cel.c)), (8, bs 0 (b.map Cel.c)), (10, .int .i64 i)], [bob 1 (b.map Cel.c)]⟩)
      (fun i c r => Gr.ROut N A F c ∧ Gr.rnds N A r.length c = Gr.rnds N A N.length b) b [0] (by simp [atR, gOk, cvw]) ⟨hb0, rfl⟩ (fun i a r c hi' ha hd hG2 => ?_) fun c hG2 => ?_
    · obtain ⟨k1, k2⟩ := hG2
      simp only [List.length_cons, Gr.rnds] at k2
      simp [hi']
      refine LoopC.scanR Arc.zero A (fun j (d : List Int) => ⟨[(1, .view (A.map Cel.c)), (7, .view (N.map Cel.c)), (8, bs 0 (d.map Cel.c)), (10, .int .i64 i), (11, .int .i64 j)], [bob 1 (d.map Cel.c)]⟩)
        (fun j d r => (Gr.ROut N A F d ∧ r.foldl (Gr.rnd1 N) d = Gr.rnd N A c) ∧ ∀ x ∈ r, x ∈ A) c [0] (by simp [atR, gOk, cvw]) ⟨⟨k1, rfl⟩, fun x h => h⟩ (fun j e r2 d hj he hde hG3 => ?_) fun d hG3 => ?_
      · obtain ⟨⟨m1, m2⟩, m3⟩ := hG3
        simp only [List.foldl_cons] at m2
        have hdl := rout_len m1
        have hdl2 : d.length ≤ 9223372036854775807 := by omega
        have hone := (Gr.rout_one (a := e) (m3 e (by simp)) m1).1
        have m3' : ∀ x ∈ r2, x ∈ A := fun x hx => m3 x (List.mem_cons_of_mem _ hx)
        by_cases c1 : e.From ∈ d
        · by_cases c2 : e.To ∈ N
          · by_cases c3 : e.To ∈ d
            · have er : Gr.rnd1 N d e = d := by unfold Gr.rnd1; rw [if_neg (fun h => h.2.2 c3)]
              rw [er] at m2
              simp [hj, he, cIn, hdl2, hl2, c1, c2, c3]
              exact ⟨by omega, d, ⟨[0], by simp [atR, gOk, cvw]⟩, ⟨m1, m2⟩, m3'⟩
            · have er : Gr.rnd1 N d e = d ++ [e.To] := by unfold Gr.rnd1; rw [if_pos ⟨c1, c2, c3⟩]
              rw [er] at m2 hone
              simp [hj, he, cIn, hdl2, hl2, c1, c2, c3]
              exact ⟨by omega, by omega, d ++ [e.To], ⟨[1], by simp [atR, gOk, cvw]⟩, ⟨hone, m2⟩, m3'⟩
          · have er : Gr.rnd1 N d e = d := by unfold Gr.rnd1; rw [if_neg (fun h => c2 h.2.1)]
            rw [er] at m2
            simp [hj, he, cIn, hdl2, hl2, c1, c2]
            exact ⟨by omega, d, ⟨[0], by simp [atR, gOk, cvw]⟩, ⟨m1, m2⟩, m3'⟩
        · have er : Gr.rnd1 N d e = d := by unfold Gr.rnd1; rw [if_neg (fun h => c1 h.1)]
          rw [er] at m2
          simp [hj, he, cIn, hdl2, hl2, c1]
          exact ⟨by omega, d, ⟨[0], by simp [atR, gOk, cvw]⟩, ⟨m1, m2⟩, m3'⟩
      · obtain ⟨⟨m1, m2⟩, m3⟩ := hG3
        simp only [List.foldl_nil] at m2
        rw [← m2] at k2
        simp
        exact ⟨by omega, d, ⟨[0], by simp [atR, gOk, cvw]⟩, m1, k2⟩
    · obtain ⟨k1, k2⟩ := hG2
      simp only [List.length_nil, Gr.rnds] at k2
      have hcl := rout_len k1
      rw [← k2] at hro
      rw [hro]
      have hc2 : c.length ≤ 536870912 := by omega
      cases c with
      | nil => simp
      | cons y c =>
        simp at hc2
        simp [hc2]
theorem al_set : setL [1, 2, 3] = [1, 2, 3] := by decide
theorem al_told : toldO [1, 2, 3] [⟨3, 1⟩, ⟨1, 2⟩] = [3, 1, 2] := by decide
theorem al_levels : levelsO [1, 2, 3] [⟨3, 1⟩, ⟨1, 2⟩] = [1, 2, 0] := by decide
theorem al_left : leftO [1, 2, 3] [⟨3, 1⟩, ⟨1, 2⟩] = [] := by decide
theorem al_reach : reachO [1, 2, 3] [⟨3, 1⟩, ⟨1, 2⟩] [1] = [1, 2] := by decide
theorem al_mu : muR [1, 2, 3] [⟨3, 1⟩, ⟨1, 2⟩] [] [1] ≤ 1073741823 := by decide
def cgReach : Ctr := V3 (fun (ids : List Int) (A : List Arc) (F : List Int) => (ids.length ≤ 1073741823 ∧ A.length ≤ 1073741823 ∧ F.length ≤ 1073741823) ∧ muR (setL ids) A [] F ≤ 1073741823) fun ids A F => en (reachO (setL ids) A F)
theorem known_gReach : Known Try.prog 25 cgReach := known_V3 (fun ids A F h => det_gReach ids A F h.1.1 h.1.2.1 h.1.2.2 h.2) fun ids A F h => closed_en _
theorem det_Alive16 : Det Try.prog 19 [] [] (.bool true) [] := by
  refine det_finF mixed0 (knows_cons known_gOrder (knows_cons known_Ints (knows_cons known_gLevels (knows_cons known_gReach (knows_cons known_gLeft knows_nil))))) ok_l16_alive 1 (by simp) ?_
  simp [ic_l16_alive, rs_l16_alive, cgOrder, cInts, cgLevels, cgReach, cgLeft, ordV, al_told, al_set, al_levels, al_left, al_reach, al_mu]
def cAlive16 : Ctr := C0 (.bool true)
theorem known_Alive16 : Known Try.prog 19 cAlive16 := known_C0 det_Alive16 (.bool _)
def cR16Levels : Ctr := V2 (fun (ids : List Int) (A : List Arc) => ids.length ≤ 536870912 ∧ A.length ≤ 1073741823) fun ids A => en (levelsO (setL ids) A)
theorem known_R16Levels : Known Try.prog 28 cR16Levels := known_V2 (fun ids A h => det_r16_Levels ids A h.1 h.2) fun ids A h => closed_en _
def cR16Reach : Ctr := V3 (fun (ids : List Int) (A : List Arc) (F : List Int) => ids.length ≤ 536870912 ∧ A.length ≤ 1073741823 ∧ F.length ≤ 1073741823) fun ids A F => en (reachO (setL ids) A F)
theorem known_R16Reach : Known Try.prog 26 cR16Reach := known_V3 (fun ids A F h => det_r16_Reach ids A F h.1 h.2.1 h.2.2) fun ids A F h => closed_en _
def fewG (ids : List Int) (A : List Arc) : Bool := decide (ids.length ≤ 30) && decide (A.length ≤ 60)
theorem det_few16 (ids : List Int) (A : List Arc) : Det Try.prog 18 [en ids, en A] [] (.bool (fewG ids A)) [] := by
  refine det_finF mixed0 knows_nil ok_l16_few 1 (by simp) ?_
  simp [ic_l16_few, rs_l16_few, fewG]
def cFew16 : Ctr := C2 (fun (ids : List Int) (A : List Arc) => True) fun ids A => .bool (fewG ids A)
theorem known_Few16 : Known Try.prog 18 cFew16 := known_C2 (fun ids A h => det_few16 ids A) fun ids A => flat_bool _
theorem reach_len {N : List Int} (A : List Arc) (F : List Int) (hN : N.Pairwise (· < ·)) : (reachO N A F).length ≤ N.length := by
  have hnd : N.Nodup := hN.imp fun h => by omega
  refine Gr.nodup_len ((rise_setL _).imp fun h => by omega) fun x hx => ?_
  unfold reachO at hx
  rw [mem_setL, Gr.rnds_mem hnd] at hx
  exact hx.node
theorem left_len (N : List Int) (A : List Arc) : (leftO N A).length ≤ N.length := List.length_filter_le _ _
theorem levels_len (N : List Int) (A : List Arc) : (levelsO N A).length = N.length := by simp [levelsO]
theorem det_GraphOrders (ids : List Int) (wi : Rd.wf ids) (A : List Arc) (wA : Rd.wf A) : Det Try.prog 4 [en ids, en A] [] (.bool true) [] := by
  refine det_finF mixed0 (knows_cons known_Few16 (knows_cons known_Alive16 (knows_cons known_gOrder (knows_cons known_R16Order (knows_cons known_Ints (knows_cons known_gLeft (knows_cons known_R16Left knows_nil))))))) ok_l16_GraphOrders 1 (by simp) ?_
  by_cases hf : fewG ids A = true
  · have h2 : ids.length ≤ 30 ∧ A.length ≤ 60 := by simpa [fewG] using hf
    obtain ⟨hi, hA⟩ := h2
    have hl := setL_len ids
    have hN := rise_setL ids
    have h1 := told_len A hN
    have h3 := left_len (setL ids) A
    have a1 : ids.length ≤ 1073741823 := by omega
    have a2 : A.length ≤ 1073741823 := by omega
    have a3 : ids.length ≤ 536870912 := by omega
    have a4 : (toldO (setL ids) A).length ≤ 9223372036854775807 := by omega
    have a5 : (leftO (setL ids) A).length ≤ 9223372036854775807 := by omega
    simp [ic_l16_GraphOrders, rs_l16_GraphOrders, cFew16, hf, cAlive16, cgOrder, cR16Order, cInts, cgLeft, cR16Left, ordV, a1, a2, a3, a4, a5]
  · have hf' : fewG ids A = false := by simpa using hf
    simp [ic_l16_GraphOrders, rs_l16_GraphOrders, cFew16, hf', cAlive16]
theorem det_GraphReaches (ids : List Int) (wi : Rd.wf ids) (A : List Arc) (wA : Rd.wf A) (F : List Int) (wF : Rd.wf F) : Det Try.prog 5 [en ids, en A, en F] [] (.bool true) [] := by
  refine det_finF mixed0 (knows_cons known_Few16 (knows_cons known_Alive16 (knows_cons known_gReach (knows_cons known_R16Reach (knows_cons known_Ints (knows_cons known_gLevels (knows_cons known_R16Levels knows_nil))))))) ok_l16_GraphReaches 1 (by simp) ?_
  by_cases hf : fewG ids A = true
  · have h2 : ids.length ≤ 30 ∧ A.length ≤ 60 := by simpa [fewG] using hf
    obtain ⟨hi, hA⟩ := h2
    by_cases hF : F.length ≤ 30
    · have hF1 : ¬ (30 : Int) < F.length := by omega
      have hl := setL_len ids
      have hN := rise_setL ids
      have h1 := reach_len A F hN
      have h3 := levels_len (setL ids) A
      have a1 : ids.length ≤ 1073741823 := by omega
      have a2 : A.length ≤ 1073741823 := by omega
      have a3 : ids.length ≤ 536870912 := by omega
      have a4 : (reachO (setL ids) A F).length ≤ 9223372036854775807 := by omega
      have a5 : (levelsO (setL ids) A).length ≤ 9223372036854775807 := by omega
      have a6 : F.length ≤ 1073741823 := by omega
      have a7 : muR (setL ids) A [] F ≤ 1073741823 := by
        simp only [muR, List.length_nil, Nat.sub_zero]
        have := Nat.mul_le_mul (show (setL ids).length ≤ 30 by omega) (show A.length + 1 ≤ 61 by omega)
        omega
      simp [ic_l16_GraphReaches, rs_l16_GraphReaches, cFew16, hf, hF, hF1, cAlive16, cgReach, cR16Reach, cInts, cgLevels, cR16Levels, a1, a2, a3, a4, a5, a6, a7]
    · have hF1 : (30 : Int) < F.length := by omega
      simp [ic_l16_GraphReaches, rs_l16_GraphReaches, cFew16, hf, hF, hF1, cAlive16]
  · have hf' : fewG ids A = false := by simpa using hf
    simp [ic_l16_GraphReaches, rs_l16_GraphReaches, cFew16, hf', cAlive16]
end Go.Proofs.Ytaimhgmakgbfaaa.Sx
