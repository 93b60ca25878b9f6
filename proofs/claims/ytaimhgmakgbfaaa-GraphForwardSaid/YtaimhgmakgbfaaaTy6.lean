/- Slices that loops append to ('bs', 'bob'), told without parting cases. No conditions: a kit of our own. -/
import Derived.Test.YtaimhgmakgbfaaaTy4
namespace Go.Proofs.Ytaimhgmakgbfaaa.Sx
open Go Go.RowKit
set_option linter.unusedVariables false
set_option linter.unusedSimpArgs false

/-- An implication, where 'simp' must show it of a law's own condition. -/
def impl (p q : Prop) : Prop := p → q
@[simp] theorem impl_def (p q : Prop) : impl p q = (p → q) := rfl
theorem bs_ne {i : Nat} {rs : List (List AV)} (h : rs ≠ []) : bs i rs = .sl i 0 rs.length := by cases rs <;> first | exact absurd rfl h | rfl
theorem bob_ne {sz : Nat} {rs : List (List AV)} (h : rs ≠ []) : bob sz rs = .rows sz rs := by cases rs <;> first | exact absurd rfl h | rfl
@[simp] theorem bs_app (i : Nat) (rs : List (List AV)) (x : List AV) (t : List (List AV)) : bs i (rs ++ x :: t) = .sl i 0 (rs.length + (t.length + 1)) := by
  rw [bs_ne (by simp)]; simp
@[simp] theorem bob_app (sz : Nat) (rs : List (List AV)) (x : List AV) (t : List (List AV)) : bob sz (rs ++ x :: t) = .rows sz (rs ++ x :: t) := bob_ne (by simp)
/-! what is looked up in a heap, by its object -/
@[simp] theorem isRowsO_bob (sz : Nat) (rs : List (List AV)) : isRowsO (some (bob sz rs)) ↔ rs ≠ [] := by cases rs <;> simp [isRowsO, bob]
@[simp] theorem rowsO_bob (sz : Nat) (rs : List (List AV)) : rowsO (some (bob sz rs)) = rs := by cases rs <;> rfl
@[simp] theorem liveO_bob (sz : Nat) (rs : List (List AV)) : liveO (some (bob sz rs)) ↔ rs ≠ [] := by cases rs <;> simp [liveO, bob]
theorem szO_bob (sz : Nat) (rs : List (List AV)) (h : rs ≠ []) : szO (some (bob sz rs)) = sz := by rw [bob_ne h]; rfl

section
variable {Γ : FuncId → Ctr} {r : Opd → AV} {H : List AObj}
@[simp] theorem appP_bs {sz id : Nat} {rs src : List (List AV)} (h : H[id]? = some (bob sz rs)) (hs : src ≠ []) : appP (bs id rs) H sz src ↔ rs.length + src.length ≤ mostRows := by
  cases rs with
  | nil => simp only [bs_nil, appP, List.length_nil, Nat.zero_add]
  | cons x rs =>
    simp only [bs_cons, appP, isRows, szOf, rowsOf, h, bob_cons, isRowsO, szO, rowsO, List.length_cons, Nat.zero_add, true_and]
@[simp] theorem appV_bs (id : Nat) (rs : List (List AV)) {src : List (List AV)} (hs : src ≠ []) : appV (bs id rs) H src = .sl H.length 0 (rs.length + src.length) := by
  cases rs
  · simp [appV, bs_ne hs]
  · simp [appV]
theorem set_same {α : Type} {l : List α} {i : Nat} {a : α} (h : l[i]? = some a) : l.set i a = l := by
  obtain ⟨hi, e⟩ := List.getElem?_eq_some_iff.1 h
  rw [← e]; exact List.set_getElem_self hi
@[simp] theorem appH_bs {sz id : Nat} {rs src : List (List AV)} (h : H[id]? = some (bob sz rs)) (hs : src ≠ []) : appH (bs id rs) H sz src = H.set id .dead ++ [.rows sz (rs ++ src)] := by
  cases rs with
  | nil => simp only [bs_nil, appH, List.nil_append, bob_ne hs]; rw [set_same (a := AObj.dead) h]
  | cons x rs => simp only [bs_cons, appH, rowsOf, h, bob_cons, rowsO, List.drop_zero]
@[simp] theorem lenP_bs {id : Nat} {rs : List (List AV)} (h : impl (rs ≠ []) (live H id)) : lenP (bs id rs) H := by
  cases rs with
  | nil => trivial
  | cons x rs => exact h (by simp)
@[simp] theorem lenV_bs (id : Nat) (rs : List (List AV)) : lenV (bs id rs) = .int .i64 rs.length := by cases rs <;> simp [lenV]
@[simp] theorem iaP_bs {id sz : Nat} {rs : List (List AV)} {d : List AV} {n : Int} (h : H[id]? = some (bob sz rs)) : iaP (bs id rs) H sz d n ↔ 0 ≤ n ∧ n < rs.length := by
  cases rs with
  | nil => simp only [bs_nil, iaP, List.length_nil, false_iff]; omega
  | cons x rs => simp only [bs_cons, iaP, isRows, szOf, h, bob_cons, isRowsO, szO, true_and, List.length_cons]
@[simp] theorem iaV_bs {id : Nat} {rs : List (List AV)} {d : List AV} {n : Int} (h : rs ≠ []) : iaV (bs id rs) d n = .ptr id n.toNat 0 := by
  rw [bs_ne h]; simp [iaV]
/-! sources -/
@[simp] theorem srcp_bs {id : Nat} {rs : List (List AV)} (h : rowsO H[id]? = rs) : srcp H (bs id rs) := by
  cases rs with
  | nil => trivial
  | cons x rs =>
    simp only [bs_cons, srcp, rowsOf, isRows]
    cases ho : H[id]? with
    | none => rw [ho] at h; simp [rowsO] at h
    | some o => cases o <;> simp [ho, rowsO] at h ⊢; rw [h]; simp
@[simp] theorem srcv_bs {id : Nat} {rs : List (List AV)} (h : rowsO H[id]? = rs) : srcv H (bs id rs) = rs := by
  cases rs with
  | nil => rfl
  | cons x rs => simp only [bs_cons, srcv, rowsOf, h, List.drop_zero]; exact List.take_of_length_le (by simp)
end
/-! ends and contracts -/
theorem rowsO_ne {o : Option AObj} {rs : List (List AV)} (h : rowsO o = rs) (hn : rs ≠ []) : isRowsO o := by
  cases o with
  | none => exact absurd h.symm hn
  | some o => cases o <;> first | trivial | exact absurd h.symm hn
@[simp] theorem frz_bs {d id : Nat} {H : List AObj} {rs : List (List AV)} (h : rowsO H[id]? = rs) : frz (d + 1) H (bs id rs) = .view (rs.map fun row => row.map (frz d H)) := by
  cases rs with
  | nil => rfl
  | cons x rs => simp only [bs_cons, frz, rowsOf, h, List.drop_zero]; rw [List.take_of_length_le (by simp)]
@[simp] theorem frp_bs {d id : Nat} {H : List AObj} {rs : List (List AV)} (h : rowsO H[id]? = rs) : frp (d + 1) H (bs id rs) ↔ allR (frp d H) rs := by
  cases rs with
  | nil => simp
  | cons x rs =>
    have h1 := rowsO_ne h (by simp)
    simp only [bs_cons, frp, rowsOf, isRows, h, h1, List.drop_zero, true_and]
    rw [List.take_of_length_le (by simp)]
    simp [allR]
@[simp] theorem frpK_bs {m d id : Nat} {H : List AObj} {rs : List (List AV)} (h : rowsO H[id]? = rs) (hm : m ≤ id) : frpK m (d + 1) H (bs id rs) ↔ allR (frpK m d H) rs := by
  cases rs with
  | nil => simp
  | cons x rs =>
    have h1 := rowsO_ne h (by simp)
    simp only [bs_cons, frpK, rowsOf, isRows, h, h1, hm, List.drop_zero, true_and]
    rw [List.take_of_length_le (by simp)]
    simp [allR]
section
variable {α : Type} [Cel α]
@[simp] theorem isAgg_bs (id : Nat) (rs : List (List AV)) : isAgg (bs id rs) = false := by cases rs <;> rfl
@[simp] theorem cellsL_bs (id : Nat) (rs : List (List AV)) : cellsL (bs id rs) = [bs id rs] := by cases rs <;> rfl
@[simp] theorem plain_bs (id : Nat) (rs : List (List AV)) : (bs id rs).plain = true := by cases rs <;> rfl
@[simp] theorem u_bs {id : Nat} {H : List AObj} {rs : List (List AV)} (h : rowsO H[id]? = rs) : Cel.u (α := List α) H [bs id rs] = rs.map (Cel.u H) := by
  cases rs with
  | nil => rfl
  | cons x rs => simp only [bs_cons, u_sl, rowsOf, h, List.drop_zero]; rw [List.take_of_length_le (by simp)]
@[simp] theorem ok_bs {id : Nat} {H : List AObj} {rs : List (List AV)} (h : rowsO H[id]? = rs) : Cel.ok (α := List α) H [bs id rs] ↔ ∀ row ∈ rs, Cel.ok (α := α) H row := by
  cases rs with
  | nil => simp
  | cons x rs =>
    have h1 := rowsO_ne h (by simp)
    simp only [bs_cons, ok_sl, rowsOf, isRows, h, h1, List.drop_zero, true_and]
    rw [List.take_of_length_le (by simp)]
    simp
@[simp] theorem okc_map (H : List AObj) (xs : List α) : (∀ row ∈ xs.map Cel.c, Cel.ok (α := α) H row) ↔ True := by
  simp only [iff_true]
  intro r hr
  obtain ⟨x, _, rfl⟩ := List.mem_map.1 hr
  exact Cel.ok_c H x
@[simp] theorem map_u_self (H : List AObj) (xs : List α) : xs.map (fun x => Cel.u (α := α) H (Cel.c x)) = xs := map_self fun x _ => Cel.u_c H x
theorem frz_cell (d : Nat) (H : List AObj) {x : α} {a : AV} (ha : a ∈ Cel.c x) : frz d H a = a := by
  have h := Cel.closed x a ha
  have hp := Cel.plain x a ha
  have hn := Cel.nn x
  cases d with
  | zero => rfl
  | succ d =>
    cases a <;> first | rfl | (exact absurd ha hn) | (cases h with | sl h => exact h.elim) | (cases h with | ptr h => exact h.elim) | (simp [AV.plain] at hp; done) | (simp only [frz]; rw [map_self fun a ha => ptrF_closed ((closed_fn_inv h).2 a ha)])
theorem frp_cell (d : Nat) (H : List AObj) {x : α} {a : AV} (ha : a ∈ Cel.c x) : frp d H a := by
  have h := Cel.closed x a ha
  have hp := Cel.plain x a ha
  cases d with
  | zero => exact h
  | succ d =>
    cases a <;> first | exact h | trivial | (cases h with | sl h => exact h.elim) | (cases h with | ptr h => exact h.elim) | (simp [AV.plain] at hp; done) | exact ⟨(closed_fn_inv h).1, fun a ha => ptrQ_closed ((closed_fn_inv h).2 a ha)⟩
theorem frpK_cell (m d : Nat) (H : List AObj) {x : α} {a : AV} (ha : a ∈ Cel.c x) : frpK m d H a := by
  have h := Cel.closed x a ha
  have hp := Cel.plain x a ha
  cases d with
  | zero => exact h
  | succ d =>
    cases a <;> first | exact h | trivial | (cases h with | sl h => exact h.elim) | (cases h with | ptr h => exact h.elim) | (simp [AV.plain] at hp; done) | exact ⟨(closed_fn_inv h).1, fun a ha => ptrQ_closed ((closed_fn_inv h).2 a ha)⟩
@[simp] theorem frz_c (d : Nat) (H : List AObj) (x : α) : (Cel.c x).map (frz d H) = Cel.c x := map_self fun a ha => frz_cell d H ha
@[simp] theorem frz_rows (d : Nat) (H : List AObj) (xs : List α) : (xs.map Cel.c).map (fun r => r.map (frz d H)) = xs.map Cel.c := by
  rw [List.map_map]; exact List.map_congr_left fun x _ => frz_c d H x
@[simp] theorem frz_rows' (d : Nat) (H : List AObj) (xs : List α) : xs.map ((fun r => r.map (frz d H)) ∘ Cel.c) = xs.map Cel.c := List.map_congr_left fun x _ => frz_c d H x
@[simp] theorem frp_c (d : Nat) (H : List AObj) (x : α) : allC (frp d H) (Cel.c x) = True := allC_c (fun _ _ h => frp_cell d H h) x
@[simp] theorem frp_rows (d : Nat) (H : List AObj) (xs : List α) : allR (frp d H) (xs.map Cel.c) = True := allR_c (fun _ _ h => frp_cell d H h) xs
@[simp] theorem frpK_c (m d : Nat) (H : List AObj) (x : α) : allC (frpK m d H) (Cel.c x) = True := allC_c (fun _ _ h => frpK_cell m d H h) x
@[simp] theorem frpK_rows (m d : Nat) (H : List AObj) (xs : List α) : allR (frpK m d H) (xs.map Cel.c) = True := allR_c (fun _ _ h => frpK_cell m d H h) xs
end
/-! names anew -/
@[simp] theorem rn_bs (d : Nat) (g : List Nat) (i : Nat) (rs : List (List AV)) : rn d g (bs i rs) = bs (nth g i 0) rs := by cases rs <;> cases d <;> rfl
@[simp] theorem lowD_bs (d k i : Nat) (rs : List (List AV)) : lowD d k (bs i rs) ↔ rs = [] ∨ i < k := by
  cases rs <;> cases d <;> simp [lowD]
@[simp] theorem rnO_bob (d : Nat) (g : List Nat) (sz : Nat) (rs : List (List AV)) : rnO d g (bob sz rs) = bob sz (rs.map fun r => r.map (rn d g)) := by cases rs <;> rfl
@[simp] theorem lowOD_bob (d k sz : Nat) (rs : List (List AV)) : lowOD d k (bob sz rs) ↔ allR (lowD d k) rs := by cases rs <;> simp [lowOD, bob]
@[simp] theorem lowO_bob (k sz : Nat) (rs : List (List AV)) : LowO k (bob sz rs) ↔ allR (Low k) rs := by cases rs <;> simp [bob]
@[simp] theorem low_bs (k i : Nat) (rs : List (List AV)) : Low k (bs i rs) ↔ rs = [] ∨ i < k := by cases rs <;> simp
@[simp] theorem bob_dead_iff (sz : Nat) (rs : List (List AV)) : bob sz rs = .dead ↔ rs = [] := by cases rs <;> simp [bob]
end Go.Proofs.Ytaimhgmakgbfaaa.Sx
