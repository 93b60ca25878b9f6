/- slices.Sort and slices.Compact at []int, on a slice that was appended to, or none. No conditions: a kit of our own. -/
import Derived.Test.YtnjpfoblmomnlaaFnI1
import Derived.Shelf.Slices.In.SortNone
namespace Go.Proofs.Ytnjpfoblmomnlaa.Sx
open Go Go.Shelf Go.Sort Go.RowKit
set_option linter.unusedVariables false
set_option linter.unusedSimpArgs false

/-- slices.Sort, of nothing too. -/
def cSortB : Ctr := ⟨fun a H => match a with
  | [.nils] => True
  | a => cSort.pre a H, fun a H => .tup [], fun a H => match a with
  | [.nils] => H
  | a => cSort.hp a H⟩
theorem known_SortB : Known Try.prog 159 cSortB := fun args H hp => by
  match args, hp with
  | [.nils], hp =>
    refine ⟨by kernel_rfl, fun E vs hH hv => ?_⟩
    obtain ⟨v, rfl⟩ : ∃ v, vs = [v] := by
      have h := hv.len
      match vs, h with
      | [v], _ => exact ⟨v, rfl⟩
    have g := hv.at_ 0 _ v rfl rfl
    cases g
    refine (Any.slices_Sort_int_none sortLays none 0 E.w).mono fun e w' ⟨he', hw⟩ => ?_
    subst hw
    exact ⟨.tuple #[], E, .tup [], H, he', rfl, .tup rfl fun i a v h1 h2 => by simp at h1, hH, Ext.refl (by rw [hH.n]; exact Nat.le_refl _), rfl, rfl⟩
  | [.sl id r n], hp => exact known_Sort [.sl id r n] H hp
@[simp] theorem cSortB_nil (H : List AObj) : cSortB.pre [.nils] H = True := rfl
@[simp] theorem cSortB_hnil (H : List AObj) : cSortB.hp [.nils] H = H := rfl
@[simp] theorem cSortB_val (a : List AV) (H : List AObj) : cSortB.val a H = .tup [] := rfl
@[simp] theorem cSortB_pre (id r n : Nat) (H : List AObj) : cSortB.pre [.sl id r n] H = (r = 0 ∧ ∃ l : List Int, n = l.length ∧ H[id]? = some (.rows 1 (l.map Cel.c)) ∧ l.length ≤ 1073741824) := rfl
@[simp] theorem cSortB_hp (id r n : Nat) (H : List AObj) : cSortB.hp [.sl id r n] H = H.set id (.rows 1 ((sorted ((rowsOf H id).map (Cel.u []))).map Cel.c)) := rfl
theorem det_CompactNil : Det Try.prog 257 [.nils] [] .nils [] := by
  refine det_fin0 mixed0 knows_nil ok_slices_Compact_int_int (by simp) ?_
  simp [ic_slices_Compact_int_int, rs_slices_Compact_int_int]
theorem det_CompactOne (x : Int) : Det Try.prog 257 [.sl 0 0 1] [.rows 1 [[.int .i64 x]]] (.sl 0 0 1) [.rows 1 [[.int .i64 x]]] := by
  refine det_fin0 mixed0 knows_nil ok_slices_Compact_int_int (by simp) ?_
  simp [ic_slices_Compact_int_int, rs_slices_Compact_int_int]
/-- slices.Compact, of nothing or of one too. -/
def cCompactB : Ctr := ⟨fun a H => match a with
  | [.nils] => True
  | [.sl id r n] => r = 0 ∧ ∃ l : List Int, (n = l.length ∧ 0 < l.length) ∧ H[id]? = some (.rows 1 (l.map Cel.c)) ∧ l.length ≤ 1073741824
  | a => False, fun a H => match a with
  | [.nils] => .nils
  | a => cCompact.val a H, fun a H => match a with
  | [.nils] => H
  | a => cCompact.hp a H⟩
theorem known_CompactB : Known Try.prog 257 cCompactB := fun args H hp => by
  match args, hp with
  | [.nils], hp => exact det_CompactNil.pure (by simp) .nils H
  | [.sl id r n], hp =>
    obtain ⟨rfl, l, ⟨rfl, h0⟩, ho, hl⟩ := hp
    by_cases h2 : 2 ≤ l.length
    · exact known_Compact [.sl id 0 l.length] H ⟨rfl, l, ⟨rfl, h2⟩, ho, hl⟩
    · obtain ⟨x, rfl⟩ : ∃ x, l = [x] := by
        match l, h0, h2 with
        | [x], _, _ => exact ⟨x, rfl⟩
        | x :: y :: l, _, h2 => simp at h2
      have hr : rowsOf H id = [x].map Cel.c := by simp [rowsOf, ho]
      have hd := (det_CompactOne x).one ho (by simp) (by simp)
      have e : (rowsOf H id).map (Cel.u (α := Int) []) = [x] := by rw [hr]; simp
      show Det _ _ _ H (cCompact.val [.sl id 0 1] H) (cCompact.hp [.sl id 0 1] H)
      rw [cCompact_val, cCompact_hp, e]
      simpa [comp] using hd
@[simp] theorem cCompactB_nil (H : List AObj) : cCompactB.pre [.nils] H = True := rfl
@[simp] theorem cCompactB_hnil (H : List AObj) : cCompactB.hp [.nils] H = H := rfl
@[simp] theorem cCompactB_vnil (H : List AObj) : cCompactB.val [.nils] H = .nils := rfl
@[simp] theorem cCompactB_pre (id r n : Nat) (H : List AObj) : cCompactB.pre [.sl id r n] H = (r = 0 ∧ ∃ l : List Int, (n = l.length ∧ 0 < l.length) ∧ H[id]? = some (.rows 1 (l.map Cel.c)) ∧ l.length ≤ 1073741824) := rfl
@[simp] theorem cCompactB_val (id r n : Nat) (H : List AObj) : cCompactB.val [.sl id r n] H = .sl id 0 (comp ((rowsOf H id).map (Cel.u []))).length := rfl
@[simp] theorem cCompactB_hp (id r n : Nat) (H : List AObj) : cCompactB.hp [.sl id r n] H = H.set id (.rows 1 ((comp ((rowsOf H id).map (Cel.u []))).map Cel.c ++ List.replicate (n - (comp ((rowsOf H id).map (Cel.u []))).length) [.int .i64 0])) := rfl
end Go.Proofs.Ytnjpfoblmomnlaa.Sx
