/- Functions of specs that hold them against each other and copy them. No conditions: a kit of our own. -/
import Derived.Test.YtnckibgcjgeekaaGreatFnA1
import Derived.Test.YtnckibgcjgeekaaGreatIrB
namespace Go.Proofs.YtnckibgcjgeekaaGreat.Sx
open Go Go.RowKit
set_option linter.unusedVariables false
set_option linter.unusedSimpArgs false

theorem det_Equal (xs ys : List Int) (hl : xs.length ≤ 9223372036854775807) : Det Tryz.prog 108 [en xs, en ys] [] (.bool (decide (xs = ys))) [] := by
  refine det_finF mixed0 knows_nil ok_slices_Equal_int_int 1 (by simp) ?_
  simp [ic_slices_Equal_int_int, rs_slices_Equal_int_int]
  refine ⟨fun h e => h (by rw [e]), fun hlen => ?_⟩
  refine LoopC.scanB (0 : Int) xs (fun i (_ : Unit) => ⟨[(0, .view (xs.map Cel.c)), (1, .view (ys.map Cel.c)), (12, .int .i64 xs.length), (13, .int .i64 i)], []⟩) (fun i _ r => xs = ys ↔ r = ys.drop i) () (by simp) (by simp) (by simp) (fun i a r b hi ha hd hG => ?_) fun b hG => ?_
  · have hi' : i < ys.length := by omega
    have hy := drop_nth (0 : Int) hi'
    simp [hi, hi', ha, vcLoose]
    rw [hy] at hG
    refine ⟨fun e => ?_, fun e => ⟨by omega, ?_⟩⟩
    · rw [hG]; simp; intro e'; exact absurd e' e
    · rw [hG, e]; simp
  · simp
    rw [hG, List.drop_of_length_le (by omega)]
theorem known_Equal : Known Tryz.prog 108 cInts := known_C2 (fun l n h => det_Equal l n h) fun l n => flat_bool _
end Go.Proofs.YtnckibgcjgeekaaGreat.Sx
