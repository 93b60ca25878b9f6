/- The laws of 17, as they are computed. No conditions: a kit of our own. -/
import Derived.Test.YteidimemlonjbaaFnI3
import Derived.Test.YteidimemlonjbaaTy2
namespace Go.Proofs.Yteidimemlonjbaa.Sx
open Go Go.RowKit
set_option linter.unusedVariables false
set_option linter.unusedSimpArgs false

theorem setL_ne {x y : List Int} (h : x ≠ setL y) (hx : x.Pairwise (· < ·)) : ¬ ∀ n, n ∈ x ↔ n ∈ y := fun k => h (rise_ext hx (rise_setL y) fun n => by rw [mem_setL]; exact k n)
theorem setL_551 : setL [5, 5, 1] = [1, 5] := rise_ext (rise_setL _) (by simp) fun n => by rw [mem_setL]; simp; omega
theorem orL_3123 : orL [3, 1] [2, 3] = [1, 2, 3] := rise_ext (rise_orL _ _) (by simp) fun n => by rw [mem_orL]; simp; omega
theorem abv_944 : abv [9, 4] 4 = (9, true) := abv_eq (.inl ⟨rfl, by simp, by simp, by simp⟩)
theorem inL_dec (a b : List Int) : inL a b = decide (lessL a b = []) := by simp [inL, List.length_eq_zero_iff]
theorem parts_or (a b : List Int) : orL (orL (lessL a b) (andL a b)) (lessL b a) = orL a b := rise_ext (rise_orL _ _) (rise_orL _ _) fun x => by
  simp only [mem_orL, mem_lessL, mem_andL]; grind
theorem rises_or (a b : List Int) : rises (orL a b) = true := rises_iff.2 (rise_orL a b)
theorem in_and (a b : List Int) : inL (andL a b) a = true := inL_iff.2 fun x hx => (mem_andL.1 hx).1
theorem in_or (a b : List Int) : inL a (orL a b) = true := inL_iff.2 fun x hx => mem_orL.2 (.inl hx)
theorem in_trans {a b c : List Int} (h1 : inL a b = true) (h2 : inL b c = true) : inL a c = true := inL_iff.2 fun x hx => inL_iff.1 h2 x (inL_iff.1 h1 x hx)
theorem in_both {a b : List Int} (h : inL a b = true) : inL b a = decide (setL a = setL b) := by
  rw [Bool.eq_iff_iff, decide_eq_true_eq]
  constructor
  · intro h2
    exact rise_ext (rise_setL a) (rise_setL b) fun x => by rw [mem_setL, mem_setL]; exact ⟨inL_iff.1 h x, inL_iff.1 h2 x⟩
  · intro e
    refine inL_iff.2 fun x hx => ?_
    rw [← mem_setL, e, mem_setL]; exact hx
theorem split_at {A : List Int} (hA : A.Pairwise (· < ·)) (m : Int) : ∃ u w, A = u ++ w ∧ (∀ x ∈ u, x ≤ m) ∧ ∀ x ∈ w, m < x := by
  induction A with
  | nil => exact ⟨[], [], rfl, by simp, by simp⟩
  | cons a l ih =>
    obtain ⟨h1, h2⟩ := List.pairwise_cons.1 hA
    by_cases h : a ≤ m
    · obtain ⟨u, w, e, h3, h4⟩ := ih h2
      refine ⟨a :: u, w, by rw [e]; rfl, fun x hx => ?_, h4⟩
      rcases List.mem_cons.1 hx with rfl | hx
      · exact h
      · exact h3 x hx
    · refine ⟨[], a :: l, rfl, by simp, fun x hx => ?_⟩
      rcases List.mem_cons.1 hx with rfl | hx
      · omega
      · have := h1 x hx; omega
attribute [local irreducible] setL orL andL lessL abv inL
theorem det_l17_alive : Det Try.prog 8 [] [] (.bool true) [] := by
  refine det_finF mixed0 (knows_cons known_IdAbove (knows_cons known_IdOr (knows_cons known_Ints (knows_cons known_IdOf (knows_cons known_IdRight knows_nil))))) ok_l17_alive 1 (by simp) ?_
  have v1 := closed_viewc [(9 : Int), 4]
  have v2 := closed_viewc [(3 : Int), 1]
  have v3 := closed_viewc [(2 : Int), 3]
  simp [ic_l17_alive, rs_l17_alive, cAbove, cIdOps, cInts, cSet, cIdRight, vcLoose, setL_551, orL_3123, abv_944, rises]
def c17Alive : Ctr := C0 (.bool true)
theorem known_17alive : Known Try.prog 8 c17Alive := known_C0 det_l17_alive (.bool _)
theorem det_IdsetTells (l : List Int) (n : Int) : Det Try.prog 4 [en l, en n] [] (.bool true) [] := by
  refine det_finF mixed0 (knows_cons known_17alive (knows_cons known_IdOf (knows_cons known_R16Set (knows_cons known_Ints (knows_cons known_IdRight (knows_cons known_R17Right (knows_cons known_IdHas (knows_cons known_In knows_nil)))))))) ok_l17_IdsetTells 1 (by simp) ?_
  simp [ic_l17_IdsetTells, rs_l17_IdsetTells, c17Alive, cSet, cR16Set, cInts, cIdRight, cR17Right, cContains, cIn, vcLoose]
  have := setL_len l
  omega
theorem det_IdsetOps (a b : List Int) (n : Int) : Det Try.prog 3 [en a, en b, en n] [] (.bool true) [] := by
  refine det_finF mixed0 (knows_cons known_17alive (knows_cons known_IdAbove (knows_cons known_R17Above (knows_cons known_IdOr (knows_cons known_R17Or (knows_cons known_Ints (knows_cons known_IdAnd (knows_cons known_R17And (knows_cons known_IdLess (knows_cons known_R17Less (knows_cons known_IdWithin knows_nil))))))))))) ok_l17_IdsetOps 1 (by simp) ?_
  simp [ic_l17_IdsetOps, rs_l17_IdsetOps, c17Alive, cAbove, cIdOps, cOr, cInts, cAnd, cLess, cIdWithin, vcLoose]
  have h1 := orL_len a b
  have h2 := andL_len a b
  have h3 := lessL_len a b
  have h4 := inL_dec a b
  refine fun h5 h6 => ?_
  simp [h4]
  omega
set_option maxRecDepth 40000 in
set_option maxHeartbeats 4000000 in
theorem det_IdsetLaws (a b c : List Int) (ha : ∀ x ∈ a, -9223372036854775808 ≤ x) (hb : ∀ x ∈ b, -9223372036854775808 ≤ x) : Det Try.prog 5 [en a, en b, en c] [] (.bool true) [] := by
  refine det_finF mixed0 (knows_cons known_17alive (knows_cons known_IdAbove (knows_cons known_IdOr (knows_cons known_Ints (knows_cons known_IdAnd (knows_cons known_IdLess (knows_cons known_IdWithin (knows_cons known_IdRight (knows_cons known_IdOf (knows_cons known_IdHas knows_nil)))))))))) ok_l17_IdsetLaws 1 (by simp) ?_
  simp [ic_l17_IdsetLaws, rs_l17_IdsetLaws, c17Alive, cAbove, cIdOps, cInts, cIdWithin, cIdRight, cSet, cContains, vcLoose, parts_or, rises_or, in_and, in_or]
  refine fun h1 h2 h3 => ?_
  have e1 : ((orL a b).length : Int) = (lessL a b).length + (andL a b).length + (lessL b a).length := by have := parts_len a b; omega
  have l1 := orL_len a b
  have l2 := orL_len (lessL a b) (andL a b)
  have l3 := lessL_len a b
  have l4 := lessL_len b a
  have l5 := andL_len a b
  have l6 := setL_len a
  refine ⟨by omega, by omega, by omega, by omega, by omega, by omega, by omega, by omega, fun _ => by omega, fun _ => by omega, fun _ => by omega, e1, fun _ => ⟨by omega, fun _ => by omega, fun _ _ => by omega, fun _ => by omega, fun _ _ => by omega, fun _ _ => by omega, fun _ _ => by omega, fun _ _ => by omega, fun h => ?_, ⟨in_trans, in_both⟩, fun _ _ => ⟨by omega, ?_⟩⟩⟩
  · cases ho : inL a b
    · exact .inl (.inl rfl)
    · cases hp : inL b c
      · exact .inl (.inr rfl)
      · exact .inr (h ho hp)
  have hr : ∀ x ∈ orL a b, -9223372036854775808 ≤ x := fun x hx => by
    rcases mem_orL.1 hx with hx | hx
    · exact ha x hx
    · exact hb x hx
  have hA := rise_orL a b
  obtain ⟨u, w, e, hu, hw⟩ := split_at hA (-9223372036854775808)
  generalize orL a b = A at *
  have hwl : A.length = u.length + w.length := by rw [e, List.length_append]
  refine LoopC.genR (fun s : List Int × List Int => ⟨[(10, .view (A.map Cel.c)), (11, bs 0 (s.1.map Cel.c)), (12, .int .i64 (ahd s.2).1), (13, .bool (ahd s.2).2)], [bob 1 (s.1.map Cel.c)]⟩) (fun s => w = s.1 ++ s.2) (fun s => s.2.length) ([], w) [0] (by simp [atR, abv_from hA e hu hw]) rfl ?_
  rintro ⟨told, rest⟩ hG
  simp only at hG
  have hgl : w.length = told.length + rest.length := by rw [hG, List.length_append]
  rcases rest with _ | ⟨r, rest⟩
  · simp at hG
    subst hG
    simp [ahd]
    refine ⟨by omega, fun _ => by omega, ?_⟩
    cases u with
    | nil => exact .inl (by rw [e]; rfl)
    | cons x u =>
      refine .inr ?_
      have hx : x ∈ A := by rw [e]; simp
      have h4 := hu x (by simp)
      have h5 := hr x hx
      have : x = -9223372036854775808 := by omega
      rw [← this]; exact hx
  · have hle : told.length ≤ A.length := by omega
    rw [e] at hA
    have hpw := (List.pairwise_append.1 hA)
    rw [hG] at hpw
    have hp2 := (List.pairwise_append.1 hpw.2.1)
    have hn := abv_from (A := A) (told := u ++ (told ++ [r])) (rest := rest) (m := r) (by rw [e]; exact hA) (by rw [e, hG]; simp) (fun x hx => ?_) fun x hx => ?_
    · simp [ahd, hle, hn]
      refine ⟨by omega, by omega, told ++ [r], rest, ⟨[1], by simp [atR]⟩, by simp [hG], by simp⟩
    · simp at hx
      rcases hx with hx | hx | hx
      · exact Int.le_of_lt (hpw.2.2 x hx r (by simp))
      · exact Int.le_of_lt (hp2.2.2 x hx r (by simp))
      · omega
    · exact (List.pairwise_cons.1 hp2.2.1).1 x hx
theorem det_IdsetTells_w (l : List Int) (wl : Rd.wf l) (n : Int) (wn : Rd.wf n) : Det Try.prog 4 [en l, en n] [] (.bool true) [] := det_IdsetTells l n
theorem det_IdsetOps_w (a : List Int) (wa : Rd.wf a) (b : List Int) (wb : Rd.wf b) (n : Int) (wn : Rd.wf n) : Det Try.prog 3 [en a, en b, en n] [] (.bool true) [] := det_IdsetOps a b n
theorem det_IdsetLaws_w (a : List Int) (wa : Rd.wf a) (b : List Int) (wb : Rd.wf b) (c : List Int) (wc : Rd.wf c) : Det Try.prog 5 [en a, en b, en c] [] (.bool true) [] := by
  simp at wa wb
  exact det_IdsetLaws a b c (fun x hx => by have := wa.2 x hx; omega) fun x hx => by have := wb.2 x hx; omega
end Go.Proofs.Yteidimemlonjbaa.Sx
