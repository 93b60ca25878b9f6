/- PlanTells. No conditions: a kit of our own. -/
import Derived.Test.YtjpgnicgapkndaaFnP1
import Derived.Test.YtjpgnicgapkndaaIrPl
import Derived.Test.YtjpgnicgapkndaaTy2
namespace Go.Proofs.Ytjpgnicgapkndaa.Sx
open Go Go.RowKit
set_option linter.unusedVariables false
set_option linter.unusedSimpArgs false

theorem det_r07_At (l : List Ais) (p : Pt) (hl : l.length ≤ 9223372036854775807) : Det Try.prog 10 [en l, en p] [] (.tup [en (atL l p).1, en (atL l p).2]) [] := by
  refine det_finF mixed0 (knows_cons known_r07_Has knows_nil) ok_r07_At 2 (by simp) ?_
  unfold atL
  simp [ic_r07_At, rs_r07_At]
  refine LoopC.scanB Ais.zero l (fun i (_ : Unit) => ⟨[(0, .view (l.map Cel.c)), (3, .ptr 0 0 0), (6, .int .i64 i)], [.rows 2 [Cel.c p]]⟩) (fun i _ r => l.find? (fun a => hasP a p) = r.find? fun a => hasP a p) () (by simp) (by simp) rfl (fun i a r b hi ha hd hG => ?_) fun b hG => ?_
  · simp only [hG]
    simp [hi, ha, cInside]
    refine ⟨fun h => ?_, fun h => ⟨by omega, ?_⟩⟩
    · rw [List.find?_cons_of_pos (by simpa using h)]
      exact ⟨rfl, rfl⟩
    · rw [List.find?_cons_of_neg (by simp [h])]
  · rw [List.find?_nil] at hG
    simp only [hG]
    simp
theorem known_r07_At : Known Try.prog 10 cPlanAt := known_C2 (fun l p h => det_r07_At l p h) fun l p => flat_tup (fun x hx => by
  simp at hx
  rcases hx with rfl | rfl
  · exact flat_int _ _
  · exact flat_bool _)
theorem pal1 : planOk [⟨3, ⟨2, 0⟩, ⟨2, 5⟩⟩] = true := by decide
theorem pal2 : crossL [⟨3, ⟨2, 0⟩, ⟨2, 5⟩⟩] ⟨0, 1⟩ ⟨4, 1⟩ 0 = [3] := by
  rw [crossL, show crossI [⟨3, ⟨2, 0⟩, ⟨2, 5⟩⟩] ⟨0, 1⟩ ⟨4, 1⟩ 0 = [3] by decide]
  simp [sorted, comp]
theorem pal3 : atL [⟨3, ⟨2, 0⟩, ⟨2, 5⟩⟩] ⟨2, 5⟩ = (3, true) := by decide
theorem det_l07_alive : Det Try.prog 8 [] [] (.bool true) [] := by
  refine det_finF mixed0 (knows_cons known_PlanRight (knows_cons known_PlanAt (knows_cons known_Cross (knows_cons known_Ints knows_nil)))) ok_l07_alive 1 (by simp) ?_
  have w3 := closed_viewc [(⟨3, ⟨2, 0⟩, ⟨2, 5⟩⟩ : Ais)]
  simp at w3
  simp [ic_l07_alive, rs_l07_alive, cPlanRight, cPlanAt, cCross, cInts, vcLoose, heapsOf, w3, pal1, pal2, pal3]
def c07Alive : Ctr := C0 (.bool true)
theorem known_07alive : Known Try.prog 8 c07Alive := known_C0 det_l07_alive (.bool _)
theorem det_PlanTells (l : List Ais) (wl : Rd.wf l) (a : Ais) (wa : Rd.wf a) (b : Ais) (wb : Rd.wf b) (p : Pt) (wp : Rd.wf p) : Det Try.prog 3 [en l, en a, en b, en p] [] (.bool true) [] := by
  refine det_finF mixed0 (knows_cons known_07alive (knows_cons known_PlanRight (knows_cons known_r07_Right (knows_cons known_Meet (knows_cons known_r07_Meet (knows_cons known_PlanAt (knows_cons known_r07_At knows_nil))))))) ok_l07_PlanTells 1 (by simp) ?_
  simp [ic_l07_PlanTells, rs_l07_PlanTells, c07Alive, cPlanRight, cMeet, cPlanAt, vcLoose, heapsOf]
  omega
end Go.Proofs.Ytjpgnicgapkndaa.Sx
