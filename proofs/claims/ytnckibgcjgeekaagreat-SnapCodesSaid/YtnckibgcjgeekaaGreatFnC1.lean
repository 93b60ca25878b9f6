/- Small functions of package state: closures that ask of numbers. No conditions: a kit of our own. -/
import Derived.Test.YtnckibgcjgeekaaGreatFnB1
import Derived.Test.YtnckibgcjgeekaaGreatIrC
import Derived.Test.YtnckibgcjgeekaaGreatTy10
namespace Go.Proofs.YtnckibgcjgeekaaGreat.Sx
open Go Go.RowKit
set_option linter.unusedVariables false
set_option linter.unusedSimpArgs false

theorem low_vp1 {m : Nat} (n : Int) : Low m (.vp [.int .i64 n] 0) := Closed.seen (Cel.closed (⟨n⟩ : Bx Int) _ (by simp)) _ _
abbrev CFrom : Type := Clo2 137 Int Int
def inR (a b n : Int) : Bool := decide (a ≤ n) && decide (n ≤ b)
theorem det_from (a b : Int) : Det Tryz.prog 113 [en a, en b] [] (en (⟨a, b⟩ : CFrom)) [] := by
  refine det_finF mixed0 knows_nil ok_state_from 2 (by simp) ?_
  simp [ic_state_from, rs_state_from, frp, frz]
def cFrom : Ctr := V2 (fun a b : Int => True) fun a b => en (⟨a, b⟩ : CFrom)
theorem known_From : Known Tryz.prog 113 cFrom := known_V2 (fun a b _ => det_from a b) fun a b _ => closed_en _
theorem det_from1 (n : Int) (a b : Bx Int) : Det Tryz.prog 137 [en n, en a, en b] [] (.bool (inR a.v b.v n)) [] := by
  refine det_finF mixed0 knows_nil ok_state_from_1 1 (by simp) ?_
  simp [ic_state_from_1, rs_state_from_1, inR]
def cFrom1 : Ctr := C3 (fun (n : Int) (a b : Bx Int) => True) fun n a b => .bool (inR a.v b.v n)
theorem known_From1 : Known Tryz.prog 137 cFrom1 := known_C3 (fun n a b _ => det_from1 n a b) fun n a b => flat_bool _
theorem det_every_int (l : List Int) (p : CFrom) (hl : l.length ≤ 9223372036854775807) : Det Tryz.prog 119 [en l, en p] [] (.bool (l.all (inR p.v p.w))) [] := by
  refine det_finF mixed0 (knows_cons known_From1 knows_nil) ok_state_every_int 1 (by simp) ?_
  simp [ic_state_every_int, rs_state_every_int]
  refine BackC.scan (0 : Int) l (fun i : Nat => ⟨[(0, .view (l.map Cel.c)), (1, en p), (5, .int .i64 i)], []⟩) (fun r => l.all (inR p.v p.w) = r.all (inR p.v p.w)) (by simp; exact fun _ _ => ⟨low_vp1 _, low_vp1 _⟩) rfl (by simp) (fun i a r hi ha hG => ?_) fun hG => ?_
  · have : ¬ i = l.length := by omega
    simp [hi, ha, cFrom1, this, hG]
    exact ⟨fun h1 h2 => (by rw [h1] at h2; cases h2), fun h => ⟨⟨by omega, by omega⟩, fun _ => h⟩⟩
  · simp [hG]
def cEveryI : Ctr := C2 (fun (l : List Int) (p : CFrom) => l.length ≤ 9223372036854775807) fun l p => .bool (l.all (inR p.v p.w))
theorem known_EveryI : Known Tryz.prog 119 cEveryI := known_C2 (fun l p h => det_every_int l p h) fun l p => flat_bool _
end Go.Proofs.YtnckibgcjgeekaaGreat.Sx
