/- Slices that loops append to ('bs', 'bob'), told without parting cases. No conditions: a kit of our own. -/
import Derived.Test.YtnjpfoblmomnlaaTy4
namespace Go.Proofs.Ytnjpfoblmomnlaa.Sx
open Go Go.RowKit
set_option linter.unusedVariables false
set_option linter.unusedSimpArgs false

/-- An implication, where 'simp' must show it of a law's own condition. -/
def impl (p q : Prop) : Prop := p → q
@[simp] theorem impl_def (p q : Prop) : impl p q = (p → q) := rfl
theorem bs_ne {i : Nat} {rs : List (List AV)} (h : rs ≠ []) : bs i rs = .sl i 0 rs.length := by cases rs <;> first | exact absurd rfl h | rfl
theorem bob_ne {sz : Nat} {rs : List (List AV)} (h : rs ≠ []) : bob sz rs = .rows sz rs := by cases rs <;> first | exact absurd rfl h | rfl
@[simp] theorem bs_app (i : Nat) (rs : List (List AV)) (x : List AV) (t : List (List AV)) : bs i (rs ++ x :: t) = .sl i 0 (rs.length + (t.length + 1)) := by
  rw [bs_ne (by simp)]; simp
@[simp] theorem bob_app (sz : Nat) (rs : List (List AV)) (x : List AV) (t : List (List AV)) : bob sz (rs ++ x :: t) = .rows sz (rs ++ x :: t) := bob_ne (by simp)
/-! what is looked up in a heap, by its object -/
@[simp] theorem isRowsO_bob (sz : Nat) (rs : List (List AV)) : isRowsO (some (bob sz rs)) ↔ rs ≠ [] := by cases rs <;> simp [isRowsO, bob]
@[simp] theorem rowsO_bob (sz : Nat) (rs : List (List AV)) : rowsO (some (bob sz rs)) = rs := by cases rs <;> rfl
@[simp] theorem liveO_bob (sz : Nat) (rs : List (List AV)) : liveO (some (bob sz rs)) ↔ rs ≠ [] := by cases rs <;> simp [liveO, bob]
section
variable {Γ : FuncId → Ctr} {r : Opd → AV} {H : List AObj}
@[simp] theorem appP_bs {sz id : Nat} {rs src : List (List AV)} (h : H[id]? = some (bob sz rs)) (hs : src ≠ []) : appP (bs id rs) H sz src ↔ rs.length + src.length ≤ mostRows := by
  cases rs with
  | nil => simp only [bs_nil, appP, List.length_nil, Nat.zero_add]
  | cons x rs =>
    simp only [bs_cons, appP, isRows, szOf, rowsOf, h, bob_cons, isRowsO, szO, rowsO, List.length_cons, Nat.zero_add, true_and]
@[simp] theorem appV_bs (id : Nat) (rs : List (List AV)) {src : List (List AV)} (hs : src ≠ []) : appV (bs id rs) H src = .sl H.length 0 (rs.length + src.length) := by
  cases rs
  · simp [appV, bs_ne hs]
  · simp [appV]
theorem set_same {α : Type _} {l : List α} {i : Nat} {a : α} (h : l[i]? = some a) : l.set i a = l := by
  obtain ⟨hi, e⟩ := List.getElem?_eq_some_iff.1 h
  rw [← e]; exact List.set_getElem_self hi
@[simp] theorem appH_bs {sz id : Nat} {rs src : List (List AV)} (h : H[id]? = some (bob sz rs)) (hs : src ≠ []) : appH (bs id rs) H sz src = H.set id .dead ++ [.rows sz (rs ++ src)] := by
  cases rs with
  | nil => simp only [bs_nil, appH, List.nil_append, bob_ne hs]; rw [set_same (a := AObj.dead) h]
  | cons x rs => simp only [bs_cons, appH, rowsOf, h, bob_cons, rowsO, List.drop_zero]
@[simp] theorem lenP_bs {id : Nat} {rs : List (List AV)} (h : impl (rs ≠ []) (live H id)) : lenP (bs id rs) H := by
  cases rs with
  | nil => trivial
  | cons x rs => exact h (by simp)
@[simp] theorem lenV_bs (id : Nat) (rs : List (List AV)) : lenV (bs id rs) = .int .i64 rs.length := by cases rs <;> simp [lenV]
@[simp] theorem iaP_bs {id sz : Nat} {rs : List (List AV)} {d : List AV} {n : Int} (h : H[id]? = some (bob sz rs)) : iaP (bs id rs) H sz d n ↔ 0 ≤ n ∧ n < rs.length := by
  cases rs with
  | nil => simp only [bs_nil, iaP, List.length_nil, false_iff]; omega
  | cons x rs => simp only [bs_cons, iaP, isRows, szOf, h, bob_cons, isRowsO, szO, true_and, List.length_cons]
@[simp] theorem iaV_bs {id : Nat} {rs : List (List AV)} {d : List AV} {n : Int} (h : rs ≠ []) : iaV (bs id rs) d n = .ptr id n.toNat 0 := by
  rw [bs_ne h]; simp [iaV]
/-! sources -/
@[simp] theorem srcp_bs {id : Nat} {rs : List (List AV)} (h : rowsO H[id]? = rs) : srcp H (bs id rs) := by
  cases rs with
  | nil => trivial
  | cons x rs =>
    simp only [bs_cons, srcp, rowsOf, isRows]
    cases ho : H[id]? with
    | none => rw [ho] at h; simp [rowsO] at h
    | some o => cases o <;> simp [ho, rowsO] at h ⊢; rw [h]; simp
@[simp] theorem srcv_bs {id : Nat} {rs : List (List AV)} (h : rowsO H[id]? = rs) : srcv H (bs id rs) = rs := by
  cases rs with
  | nil => rfl
  | cons x rs => simp only [bs_cons, srcv, rowsOf, h, List.drop_zero]; exact List.take_of_length_le (by simp)
end
/-! ends and contracts -/
theorem rowsO_ne {o : Option AObj} {rs : List (List AV)} (h : rowsO o = rs) (hn : rs ≠ []) : isRowsO o := by
  cases o with
  | none => exact absurd h.symm hn
  | some o => cases o <;> first | trivial | exact absurd h.symm hn
@[simp] theorem frz_bs {d id : Nat} {H : List AObj} {rs : List (List AV)} (h : rowsO H[id]? = rs) : frz (d + 1) H (bs id rs) = .view (rs.map fun row => row.map (frz d H)) := by
  cases rs with
  | nil => rfl
  | cons x rs => simp only [bs_cons, frz, rowsOf, h, List.drop_zero]; rw [List.take_of_length_le (by simp)]
@[simp] theorem frp_bs {d id : Nat} {H : List AObj} {rs : List (List AV)} (h : rowsO H[id]? = rs) : frp (d + 1) H (bs id rs) ↔ allR (frp d H) rs := by
  cases rs with
  | nil => simp
  | cons x rs =>
    have h1 := rowsO_ne h (by simp)
    simp only [bs_cons, frp, rowsOf, isRows, h, h1, List.drop_zero, true_and]
    rw [List.take_of_length_le (by simp)]
    simp [allR]
@[simp] theorem frpK_bs {m d id : Nat} {H : List AObj} {rs : List (List AV)} (h : rowsO H[id]? = rs) (hm : m ≤ id) : frpK m (d + 1) H (bs id rs) ↔ allR (frpK m d H) rs := by
  cases rs with
  | nil => simp
  | cons x rs =>
    have h1 := rowsO_ne h (by simp)
    simp only [bs_cons, frpK, rowsOf, isRows, h, h1, hm, List.drop_zero, true_and]
    rw [List.take_of_length_le (by simp)]
    simp [allR]
section
variable {α : Type} [Cel α]
@[simp] theorem isAgg_bs (id : Nat) (rs : List (List AV)) : isAgg (bs id rs) = false := by cases rs <;> rfl
@[simp] theorem cellsL_bs (id : Nat) (rs : List (List AV)) : cellsL (bs id rs) = [bs id rs] := by cases rs <;> rfl
@[simp] theorem plain_bs (id : Nat) (rs : List (List AV)) : (bs id rs).plain = true := by cases rs <;> rfl
@[simp] theorem u_bs {id : Nat} {H : List AObj} {rs : List (List AV)} (h : rowsO H[id]? = rs) : Cel.u (α := List α) H [bs id rs] = rs.map (Cel.u H) := by
  cases rs with
  | nil => rfl
  | cons x rs => simp only [bs_cons, u_sl, rowsOf, h, List.drop_zero]; rw [List.take_of_length_le (by simp)]
@[simp] theorem ok_bs {id : Nat} {H : List AObj} {rs : List (List AV)} (h : rowsO H[id]? = rs) : Cel.ok (α := List α) H [bs id rs] ↔ ∀ row ∈ rs, Cel.ok (α := α) H row := by
  cases rs with
  | nil => simp
  | cons x rs =>
    have h1 := rowsO_ne h (by simp)
    simp only [bs_cons, ok_sl, rowsOf, isRows, h, h1, List.drop_zero, true_and]
    rw [List.take_of_length_le (by simp)]
    simp
@[simp] theorem okc_map (H : List AObj) (xs : List α) : (∀ row ∈ xs.map Cel.c, Cel.ok (α := α) H row) ↔ True := by
  simp only [iff_true]
  intro r hr
  obtain ⟨x, _, rfl⟩ := List.mem_map.1 hr
  exact Cel.ok_c H x
@[simp] theorem map_u_self (H : List AObj) (xs : List α) : xs.map (fun x => Cel.u (α := α) H (Cel.c x)) = xs := map_self fun x _ => Cel.u_c H x
theorem frz_cell (d : Nat) (H : List AObj) {x : α} {a : AV} (ha : a ∈ Cel.c x) : frz d H a = a := by
  have h := Cel.closed x a ha
  have hp := Cel.plain x a ha
  have hn := Cel.nn x
  cases d with
  | zero => rfl
  | succ d =>
    cases a <;> first | rfl | (exact absurd ha hn) | (cases h with | sl h => exact h.elim) | (cases h with | ptr h => exact h.elim) | (simp [AV.plain] at hp; done) | (simp only [frz]; rw [map_self fun a ha => ptrF_closed ((closed_fn_inv h).2 a ha)])
theorem frp_cell (d : Nat) (H : List AObj) {x : α} {a : AV} (ha : a ∈ Cel.c x) : frp d H a := by
  have h := Cel.closed x a ha
  have hp := Cel.plain x a ha
  cases d with
  | zero => exact h
  | succ d =>
    cases a <;> first | exact h | trivial | (cases h with | sl h => exact h.elim) | (cases h with | ptr h => exact h.elim) | (simp [AV.plain] at hp; done) | exact ⟨(closed_fn_inv h).1, fun a ha => ptrQ_closed ((closed_fn_inv h).2 a ha)⟩
theorem frpK_cell (m d : Nat) (H : List AObj) {x : α} {a : AV} (ha : a ∈ Cel.c x) : frpK m d H a := by
  have h := Cel.closed x a ha
  have hp := Cel.plain x a ha
  cases d with
  | zero => exact h
  | succ d =>
    cases a <;> first | exact h | trivial | (cases h with | sl h => exact h.elim) | (cases h with | ptr h => exact h.elim) | (simp [AV.plain] at hp; done) | exact ⟨(closed_fn_inv h).1, fun a ha => ptrQ_closed ((closed_fn_inv h).2 a ha)⟩
@[simp] theorem frz_c (d : Nat) (H : List AObj) (x : α) : (Cel.c x).map (frz d H) = Cel.c x := map_self fun a ha => frz_cell d H ha
@[simp] theorem frz_rows (d : Nat) (H : List AObj) (xs : List α) : (xs.map Cel.c).map (fun r => r.map (frz d H)) = xs.map Cel.c := by
  rw [List.map_map]; exact List.map_congr_left fun x _ => frz_c d H x
@[simp] theorem frz_rows' (d : Nat) (H : List AObj) (xs : List α) : xs.map ((fun r => r.map (frz d H)) ∘ Cel.c) = xs.map Cel.c := List.map_congr_left fun x _ => frz_c d H x
@[simp] theorem frp_c (d : Nat) (H : List AObj) (x : α) : allC (frp d H) (Cel.c x) = True := allC_c (fun _ _ h => frp_cell d H h) x
@[simp] theorem frp_rows (d : Nat) (H : List AObj) (xs : List α) : allR (frp d H) (xs.map Cel.c) = True := allR_c (fun _ _ h => frp_cell d H h) xs
@[simp] theorem frpK_c (m d : Nat) (H : List AObj) (x : α) : allC (frpK m d H) (Cel.c x) = True := allC_c (fun _ _ h => frpK_cell m d H h) x
@[simp] theorem frpK_rows (m d : Nat) (H : List AObj) (xs : List α) : allR (frpK m d H) (xs.map Cel.c) = True := allR_c (fun _ _ h => frpK_cell m d H h) xs
end
/-! names anew -/
@[simp] theorem rn_bs (d : Nat) (g : List Nat) (i : Nat) (rs : List (List AV)) : rn d g (bs i rs) = bs (nth g i 0) rs := by cases rs <;> cases d <;> rfl
@[simp] theorem lowD_bs (d k i : Nat) (rs : List (List AV)) : lowD d k (bs i rs) ↔ rs = [] ∨ i < k := by
  cases rs <;> cases d <;> simp [lowD]
@[simp] theorem rnO_bob (d : Nat) (g : List Nat) (sz : Nat) (rs : List (List AV)) : rnO d g (bob sz rs) = bob sz (rs.map fun r => r.map (rn d g)) := by cases rs <;> rfl
@[simp] theorem lowOD_bob (d k sz : Nat) (rs : List (List AV)) : lowOD d k (bob sz rs) ↔ allR (lowD d k) rs := by cases rs <;> simp [lowOD, bob]
@[simp] theorem lowO_bob (k sz : Nat) (rs : List (List AV)) : LowO k (bob sz rs) ↔ allR (Low k) rs := by cases rs <;> simp [bob]
@[simp] theorem low_bs (k i : Nat) (rs : List (List AV)) : Low k (bs i rs) ↔ rs = [] ∨ i < k := by cases rs <;> simp
@[simp] theorem bob_dead_iff (sz : Nat) (rs : List (List AV)) : bob sz rs = .dead ↔ rs = [] := by cases rs <;> simp [bob]
end Go.Proofs.Ytnjpfoblmomnlaa.Sx
/- Functions that give memory of their own ('O'), function values as arguments, rows that are written. No conditions: a kit of our own. -/
namespace Go.Proofs.Ytnjpfoblmomnlaa.Sx
open Go Go.RowKit
set_option linter.unusedVariables false
set_option linter.unusedSimpArgs false

/-! ### function values -/
structure FnC (f : FuncId) where
instance {f : FuncId} : Cel (FnC f) where
  n := 1
  agg := false
  c _ := [.fn f [] []]
  u _ _ := ⟨⟩
  ok _ cs := cs = [.fn f [] []]
  len x := rfl
  plain x a h := by simp at h; subst h; rfl
  closed x a h := by
    simp at h; subst h
    exact .fn rfl rfl (fun i a b h => by simp at h) (fun i a b h => by simp at h)
  nn x := by simp
  one _ := rfl
  u_c H x := rfl
  ok_c H x := rfl
  seen H cs h := by
    subst h
    exact each_cons (.fn rfl rfl (fun i a b h => by simp at h) (fun i a b h => by simp at h)) each_nil
@[simp] theorem c_fnc {f : FuncId} (x : FnC f) : Cel.c x = [.fn f [] []] := rfl
@[simp] theorem en_fnc {f : FuncId} (x : FnC f) : en x = .fn f [] [] := rfl
@[simp] theorem agg_fnc {f : FuncId} : Cel.agg (FnC f) = false := rfl
@[simp] theorem isAgg_fn (f : FuncId) (a b : List AV) : isAgg (.fn f a b) = false := rfl
@[simp] theorem ok_fnc {f g : FuncId} (H : List AObj) (a b : List AV) : Cel.ok (α := FnC f) H [.fn g a b] = (g = f ∧ a = [] ∧ b = []) := by
  show ([AV.fn g a b] = [AV.fn f [] []]) = _
  simp

/-! ### rows that are written -/
section
variable {α : Type} [Cel α]
theorem nth_c_at [Inhabited α] {l : List α} {i : Nat} (z : List AV) (h : i < l.length) : nth (l.map Cel.c) i z = Cel.c (nth l i default) := by
  rw [nth_get (by simpa using h), nth_get h]; simp
@[simp] theorem nth_c_nil [Inhabited α] {l : List α} {i : Nat} (h : i < l.length) : nth (l.map Cel.c) i [] = Cel.c (nth l i default) := nth_c_at [] h
end
@[simp] theorem default_int : (default : Int) = 0 := rfl

/-! ### memory of one's own as a result -/
/-- The names, so many higher. -/
def shv : Nat → Nat → AV → AV
  | _, n, .ptr i r o => .ptr (n + i) r o
  | _, n, .sl i r l => .sl (n + i) r l
  | _, n, .map i => .map (n + i)
  | d + 1, n, .agg cs => .agg (cs.map (shv d n))
  | d + 1, n, .tup cs => .tup (cs.map (shv d n))
  | d + 1, n, .fn f cs fs => .fn f (cs.map (shv d n)) (fs.map (shv d n))
  | _, _, v => v
def shO (n : Nat) : AObj → AObj
  | .dead => .dead
  | .rows sz rs => .rows sz (rs.map fun r => r.map (shv 2 n))
  | .imap es => .imap (es.map fun e => (e.1, shv 2 n e.2))
  | .thing x P => .thing x P
theorem seen_shv {n k : Nat} : ∀ (d : Nat) (v : AV), lowD d k v → Seen [] (byN (names [] n k)) v (shv d n v) := fun d => by
  have key : ∀ i, i < k → byN (names [] n k) i (n + i) := fun i h => by
    simp only [byN, names, List.nil_append, List.getElem?_map, List.getElem?_range h, Option.map_some]
  induction d with
  | zero =>
    intro v h
    cases v <;> simp only [lowD, shv] at h ⊢ <;> first | exact .ptr (key _ h) | exact .sl (key _ h) | exact .map (key _ h) | exact Closed.seen h _ _
  | succ d ih =>
    have lst : ∀ cs : List AV, (∀ a ∈ cs, lowD d k a) → ∀ (i : Nat) (a b : AV), cs[i]? = some a → (cs.map (shv d n))[i]? = some b → Seen [] (byN (names [] n k)) a b := fun cs hc i a b h1 h2 => by
      simp only [List.getElem?_map, h1, Option.map_some, Option.some.injEq] at h2
      rw [← h2]
      exact ih a (hc a (List.mem_of_getElem? h1))
    intro v h
    cases v <;> simp only [lowD, shv] at h ⊢ <;> first | exact .ptr (key _ h) | exact .sl (key _ h) | exact .map (key _ h) | exact Closed.seen h _ _ | skip
    · exact .fn (by simp) (by simp) (lst _ h.1) (lst _ h.2)
    · exact .agg (by simp) (lst _ h)
    · exact .tup (by simp) (lst _ h)
theorem seen_shO {n k : Nat} {o : AObj} (h : lowOD 2 k o) : SeenO [] (byN (names [] n k)) o (shO n o) := by
  cases o with
  | dead => exact .dead _
  | rows sz rs =>
    refine .rows (by simp) (fun i r r' h1 h2 => ?_) fun i r r' j a b h1 h2 h3 h4 => ?_
    · simp only [List.getElem?_map, h1, Option.map_some, Option.some.injEq] at h2
      rw [← h2]; simp
    · simp only [List.getElem?_map, h1, Option.map_some, Option.some.injEq] at h2
      rw [← h2] at h4
      simp only [List.getElem?_map, h3, Option.map_some, Option.some.injEq] at h4
      rw [← h4]
      exact seen_shv 2 a (h r (List.mem_of_getElem? h1) a (List.mem_of_getElem? h3))
  | imap es =>
    refine .imap (by simp) fun i a b h1 h2 => ?_
    simp only [List.getElem?_map, h1, Option.map_some, Option.some.injEq] at h2
    rw [← h2]
    exact ⟨rfl, seen_shv 2 a.2 (h a (List.mem_of_getElem? h1))⟩
  | thing x P => exact .thing fun _ _ h => h
theorem Det.own {P : Program} {f : FuncId} {args args0 : List AV} {x : AV} {G : List AObj} (hd : Det P f args0 [] x G) (ha : Each (Seen [] (fun _ _ => False)) args args0) (hx : lowD 3 G.length x) (hG : ∀ o ∈ G, lowOD 2 G.length o) (H : List AObj) :
    Det P f args H (shv 3 H.length x) (H ++ G.map (shO H.length)) := by
  have hn : G.length - ([] : List Nat).length = G.length := by simp
  refine hd.frame (ids := []) (H := H) ⟨rfl, fun i j k h => by simp at h, fun j i h => by simp at h, fun j i o' h => by simp at h, by simp, by simp, fun j i o' h1 h2 h3 => ?_, fun i hi _ => List.getElem?_append_left hi⟩ ⟨ha.1, fun i a b h1 h2 => ?_⟩ ?_
  · rw [hn] at h1 ⊢
    rcases names_get h1 with ⟨h, _⟩ | ⟨_, h4, h5⟩
    · simp at h
    · simp only [List.length_nil, Nat.zero_add, Nat.sub_zero] at h4 h5
      subst h5
      rw [List.getElem?_append_right (by omega)] at h2
      simp only [Nat.add_sub_cancel_left, List.getElem?_map, Option.map_eq_some_iff] at h2
      obtain ⟨o, ho, rfl⟩ := h2
      exact ⟨o, ho, seen_shO (hG o (List.mem_of_getElem? ho))⟩
  · exact (ha.2 i a b h1 h2).mono (fun _ _ h => h.elim) (.inl rfl)
  · rw [hn]
    exact seen_shv 3 x hx
@[simp] theorem shv_sl (d n i r l : Nat) : shv d n (.sl i r l) = .sl (n + i) r l := by cases d <;> rfl
@[simp] theorem shv_ptr (d n i r l : Nat) : shv d n (.ptr i r l) = .ptr (n + i) r l := by cases d <;> rfl
@[simp] theorem shv_map (d n i : Nat) : shv d n (.map i) = .map (n + i) := by cases d <;> rfl
@[simp] theorem shv_int (d n : Nat) (k : IntKind) (x : Int) : shv d n (.int k x) = .int k x := by cases d <;> rfl
@[simp] theorem shv_bool (d n : Nat) (b : Bool) : shv d n (.bool b) = .bool b := by cases d <;> rfl
@[simp] theorem shv_view (d n : Nat) (b : List (List AV)) : shv d n (.view b) = .view b := by cases d <;> rfl
@[simp] theorem shv_nils (d n : Nat) : shv d n .nils = .nils := by cases d <;> rfl
@[simp] theorem shv_nilp (d n : Nat) : shv d n .nilp = .nilp := by cases d <;> rfl
@[simp] theorem shv_agg (d n : Nat) (cs : List AV) : shv (d + 1) n (.agg cs) = .agg (cs.map (shv d n)) := rfl
@[simp] theorem shv_tup (d n : Nat) (cs : List AV) : shv (d + 1) n (.tup cs) = .tup (cs.map (shv d n)) := rfl
theorem shv_of_closed (n : Nat) : ∀ (d : Nat) (a : AV), Closed a → shv d n a = a := fun d => by
  induction d with
  | zero => intro a h; cases a <;> first | rfl | (cases h with | ptr h => exact h.elim) | (cases h with | sl h => exact h.elim) | (cases h with | map h => exact h.elim)
  | succ d ih =>
    intro a h
    cases a <;> first | rfl | (cases h with | ptr h => exact h.elim) | (cases h with | sl h => exact h.elim) | (cases h with | map h => exact h.elim) | skip
    · simp only [shv]
      rw [map_self fun a ha => ih a ((closed_fn_inv h).1 a ha), map_self fun a ha => ih a ((closed_fn_inv h).2 a ha)]
    · simp only [shv]
      rw [map_self fun a ha => ih a (closed_agg_inv h a ha)]
    · simp only [shv]
      rw [map_self fun a ha => ih a (closed_tup_inv h a ha)]
@[simp] theorem shv_c {α : Type} [Cel α] (d n : Nat) (x : α) : (Cel.c x).map (shv d n) = Cel.c x := map_self fun a ha => shv_of_closed n d a (Cel.closed x a ha)
@[simp] theorem shv_rows {α : Type} [Cel α] (d n : Nat) (xs : List α) : (xs.map Cel.c).map (fun r => r.map (shv d n)) = xs.map Cel.c := by
  rw [List.map_map]; exact List.map_congr_left fun x _ => shv_c d n x
@[simp] theorem shv_rows' {α : Type} [Cel α] (d n : Nat) (xs : List α) : xs.map ((fun r => r.map (shv d n)) ∘ Cel.c) = xs.map Cel.c := List.map_congr_left fun x _ => shv_c d n x
@[simp] theorem shO_dead (n : Nat) : shO n .dead = .dead := rfl
@[simp] theorem shO_rows (n sz : Nat) (rs : List (List AV)) : shO n (.rows sz rs) = .rows sz (rs.map fun r => r.map (shv 2 n)) := rfl
@[simp] theorem shO_thing (n : Nat) {τ : Type} (x : τ) (P : Env → Loc → Prop) : shO n (.thing x P) = .thing x P := rfl
@[simp] theorem shO_imap (n : Nat) (es : List (Int × AV)) : shO n (.imap es) = .imap (es.map fun e => (e.1, shv 2 n e.2)) := rfl
@[simp] theorem closed_view_nil' : Closed (.view []) := closed_vI []
/-- A slice of one's own that may be nil. -/
def ow (i : Nat) : List (List AV) → AV
  | [] => .view []
  | r :: rs => .sl i 0 (rs.length + 1)
@[simp] theorem ow_nil (i : Nat) : ow i [] = .view [] := rfl
@[simp] theorem ow_cons (i : Nat) (r : List AV) (rs : List (List AV)) : ow i (r :: rs) = .sl i 0 (rs.length + 1) := rfl
theorem ow_ne {i : Nat} {rs : List (List AV)} (h : rs ≠ []) : ow i rs = .sl i 0 rs.length := by cases rs <;> first | exact absurd rfl h | rfl
@[simp] theorem shv_ow (d n i : Nat) (rs : List (List AV)) : shv d n (ow i rs) = ow (n + i) rs := by cases rs <;> simp
@[simp] theorem shO_bob (n sz : Nat) (rs : List (List AV)) : shO n (bob sz rs) = bob sz (rs.map fun r => r.map (shv 2 n)) := by cases rs <;> rfl
@[simp] theorem rn_ow (d : Nat) (g : List Nat) (i : Nat) (rs : List (List AV)) : rn d g (ow i rs) = ow (nth g i 0) rs := by cases rs <;> cases d <;> rfl
@[simp] theorem lowD_ow (d k i : Nat) (rs : List (List AV)) : lowD d k (ow i rs) ↔ rs = [] ∨ i < k := by
  cases rs <;> cases d <;> simp [lowD]
@[simp] theorem low_ow (k i : Nat) (rs : List (List AV)) : Low k (ow i rs) ↔ rs = [] ∨ i < k := by cases rs <;> simp
@[simp] theorem plain_ow (i : Nat) (rs : List (List AV)) : (ow i rs).plain = true := by cases rs <;> rfl
@[simp] theorem cellsL_ow (i : Nat) (rs : List (List AV)) : cellsL (ow i rs) = [ow i rs] := by cases rs <;> rfl
@[simp] theorem isAgg_ow (i : Nat) (rs : List (List AV)) : isAgg (ow i rs) = false := by cases rs <;> rfl
@[simp] theorem lenV_ow (i : Nat) (rs : List (List AV)) : lenV (ow i rs) = .int .i64 rs.length := by cases rs <;> simp
@[simp] theorem lenP_ow {id : Nat} {H : List AObj} {rs : List (List AV)} (h : impl (rs ≠ []) (live H id)) : lenP (ow id rs) H := by
  cases rs with
  | nil => trivial
  | cons x rs => exact h (by simp)
@[simp] theorem iaP_ow {H : List AObj} {id sz : Nat} {rs : List (List AV)} {d : List AV} {n : Int} (h : H[id]? = some (bob sz rs)) : iaP (ow id rs) H sz d n ↔ 0 ≤ n ∧ n < rs.length := by
  cases rs with
  | nil => simp only [ow_nil, iaP, List.length_nil]; constructor <;> intro h <;> omega
  | cons x rs => simp only [ow_cons, iaP, isRows, szOf, h, bob_cons, isRowsO, szO, true_and, List.length_cons]
@[simp] theorem iaV_ow {id : Nat} {rs : List (List AV)} {d : List AV} {n : Int} (h : rs ≠ []) : iaV (ow id rs) d n = .ptr id n.toNat 0 := by
  rw [ow_ne h]; simp
@[simp] theorem srcp_ow {id : Nat} {H : List AObj} {rs : List (List AV)} (h : rowsO H[id]? = rs) : srcp H (ow id rs) := by
  cases rs with
  | nil => trivial
  | cons x rs => exact srcp_bs (id := id) h
@[simp] theorem srcv_ow {id : Nat} {H : List AObj} {rs : List (List AV)} (h : rowsO H[id]? = rs) : srcv H (ow id rs) = rs := by
  cases rs with
  | nil => rfl
  | cons x rs => exact srcv_bs (id := id) h
@[simp] theorem frz_ow {d id : Nat} {H : List AObj} {rs : List (List AV)} (h : rowsO H[id]? = rs) : frz (d + 1) H (ow id rs) = .view (rs.map fun row => row.map (frz d H)) := by
  cases rs with
  | nil => rfl
  | cons x rs => exact frz_bs (id := id) h
@[simp] theorem frp_ow {d id : Nat} {H : List AObj} {rs : List (List AV)} (h : rowsO H[id]? = rs) : frp (d + 1) H (ow id rs) ↔ allR (frp d H) rs := by
  cases rs with
  | nil => simp
  | cons x rs => exact frp_bs (id := id) h
@[simp] theorem u_ow {α : Type} [Cel α] {id : Nat} {H : List AObj} {rs : List (List AV)} (h : rowsO H[id]? = rs) : Cel.u (α := List α) H [ow id rs] = rs.map (Cel.u H) := by
  cases rs with
  | nil => rfl
  | cons x rs => exact u_bs (id := id) h
@[simp] theorem ok_ow {α : Type} [Cel α] {id : Nat} {H : List AObj} {rs : List (List AV)} (h : rowsO H[id]? = rs) : Cel.ok (α := List α) H [ow id rs] ↔ ∀ row ∈ rs, Cel.ok (α := α) H row := by
  cases rs with
  | nil => simp
  | cons x rs => exact ok_bs (id := id) h
def emp (g : List Nat) (H : List AObj) (v x : AV) : Prop := ∃ id, v = .sl id 0 0 ∧ x = .view [] ∧ isRows H id ∧ id ∉ g
def endO (rs : List IRes) (x : AV) (G : List AObj) (s : AS) : Prop := ∃ g : List Nat, g.Nodup ∧ (seenTmR g [(0, one (resv s rs))] [(0, x)] ∨ emp g s.hp (one (resv s rs)) x) ∧ seenHR g s.hp g G
def finO (rs : List IRes) (x : AV) (G : List AObj) : Exit → AS → Prop
  | .normal, s | .ret, s => resp s rs ∧ endO rs x G s
  | _, _ => False
theorem det_finO {P : Program} {Γ : FuncId → Ctr} (hmix : P.follows .mixedOrders = true) (hG : Knows P Γ) {f : FuncId} {ic : ICode} {rs : List IRes} {nt : Nat} (hf : fnOk P f ic rs nt = true) {args : List AV} {x : AV} {G : List AObj} (hn : args.length ≤ nt)
    (h : vc Γ 0 ic (finO rs x G) ⟨slots 0 args, []⟩) : Det P f args [] x G := acall_of_vcQ hmix hG hf hn h fun e s h => by
  have key : resp s rs ∧ endO rs x G s → fin ([] : List AObj).length rs (fun y h => y = x ∧ h = G) .normal s := fun ⟨h1, g, h2, h3, h4⟩ => by
    obtain ⟨h7, h8⟩ := seenHR_at h4
    refine ⟨h1, x, G, Shed.weakR (g := g) ⟨h7, Nat.zero_le _, fun j h => by simp at h, fun i j k hi hj => ?_, fun j i o h1 h2 h3 => h8 j i o h1 h2 h3⟩ ?_, rfl, rfl⟩
    · have hi' := (List.getElem?_eq_some_iff.1 hi).1
      exact (List.getElem?_inj hi' h2).1 (hi.trans hj.symm)
    · rcases h3 with h3 | ⟨id, e1, e2, e3, e4⟩
      · exact seenTmR_look h3 0
      · rw [e1, e2]
        obtain ⟨sz, rs', e, _, _⟩ := isRows_some e3
        exact .fz e (fun j h => e4 (List.mem_of_getElem? h)) (Nat.zero_le _) rfl (fun i x x' _ h => by simp at h) fun i x x' j a b _ h => by simp at h
  cases e <;> first | exact h.elim | exact key h
attribute [simp] finO
/-- A contract of a function that leaves new memory. -/
def O1 {α0 : Type} [Cel α0] (pre : α0 → Prop) (F : α0 → AV) (G : α0 → List AObj) : Ctr := ⟨fun a H => match a with
  | [a0] => (okA α0 [] a0) ∧ pre (de α0 [] a0)
  | _ => False, fun a H => match a with
  | [a0] => shv 3 H.length (F (de α0 [] a0))
  | _ => .any, fun a H => match a with
  | [a0] => H ++ (G (de α0 [] a0)).map (shO H.length)
  | _ => H⟩
@[simp] theorem O1_pre {α0 : Type} [Cel α0] (pre : α0 → Prop) (F : α0 → AV) (G : α0 → List AObj) (a0 : AV) (H : List AObj) : (O1 pre F G).pre [a0] H = ((okA α0 [] a0) ∧ pre (de α0 [] a0)) := rfl
@[simp] theorem O1_val {α0 : Type} [Cel α0] (pre : α0 → Prop) (F : α0 → AV) (G : α0 → List AObj) (a0 : AV) (H : List AObj) : (O1 pre F G).val [a0] H = shv 3 H.length (F (de α0 [] a0)) := rfl
@[simp] theorem O1_hp {α0 : Type} [Cel α0] (pre : α0 → Prop) (F : α0 → AV) (G : α0 → List AObj) (a0 : AV) (H : List AObj) : (O1 pre F G).hp [a0] H = H ++ (G (de α0 [] a0)).map (shO H.length) := rfl
theorem known_O1 {P : Program} {f : FuncId} {α0 : Type} [Cel α0] {pre : α0 → Prop} {F : α0 → AV} {G : α0 → List AObj} (h : ∀ x0, pre x0 → Det P f [en x0] [] (F x0) (G x0))
    (hc : ∀ x0, lowD 3 (G x0).length (F x0) ∧ ∀ o ∈ G x0, lowOD 2 (G x0).length o) : Known P f (O1 pre F G) := fun args H hp0 => by
  match args, hp0 with
  | [a0], hp0 =>
    obtain ⟨h0, hp⟩ := hp0
    exact Det.own (h _ hp) (each_cons (okA_seen h0) each_nil) (hc _).1 (hc _).2 H
/-- A contract of a function that leaves new memory. -/
def O2 {α0 α1 : Type} [Cel α0] [Cel α1] (pre : α0 → α1 → Prop) (F : α0 → α1 → AV) (G : α0 → α1 → List AObj) : Ctr := ⟨fun a H => match a with
  | [a0, a1] => (okA α0 [] a0 ∧ okA α1 [] a1) ∧ pre (de α0 [] a0) (de α1 [] a1)
  | _ => False, fun a H => match a with
  | [a0, a1] => shv 3 H.length (F (de α0 [] a0) (de α1 [] a1))
  | _ => .any, fun a H => match a with
  | [a0, a1] => H ++ (G (de α0 [] a0) (de α1 [] a1)).map (shO H.length)
  | _ => H⟩
@[simp] theorem O2_pre {α0 α1 : Type} [Cel α0] [Cel α1] (pre : α0 → α1 → Prop) (F : α0 → α1 → AV) (G : α0 → α1 → List AObj) (a0 a1 : AV) (H : List AObj) : (O2 pre F G).pre [a0, a1] H = ((okA α0 [] a0 ∧ okA α1 [] a1) ∧ pre (de α0 [] a0) (de α1 [] a1)) := rfl
@[simp] theorem O2_val {α0 α1 : Type} [Cel α0] [Cel α1] (pre : α0 → α1 → Prop) (F : α0 → α1 → AV) (G : α0 → α1 → List AObj) (a0 a1 : AV) (H : List AObj) : (O2 pre F G).val [a0, a1] H = shv 3 H.length (F (de α0 [] a0) (de α1 [] a1)) := rfl
@[simp] theorem O2_hp {α0 α1 : Type} [Cel α0] [Cel α1] (pre : α0 → α1 → Prop) (F : α0 → α1 → AV) (G : α0 → α1 → List AObj) (a0 a1 : AV) (H : List AObj) : (O2 pre F G).hp [a0, a1] H = H ++ (G (de α0 [] a0) (de α1 [] a1)).map (shO H.length) := rfl
/-- A contract of a function that leaves new memory. -/
def O3 {α0 α1 α2 : Type} [Cel α0] [Cel α1] [Cel α2] (pre : α0 → α1 → α2 → Prop) (F : α0 → α1 → α2 → AV) (G : α0 → α1 → α2 → List AObj) : Ctr := ⟨fun a H => match a with
  | [a0, a1, a2] => (okA α0 [] a0 ∧ okA α1 [] a1 ∧ okA α2 [] a2) ∧ pre (de α0 [] a0) (de α1 [] a1) (de α2 [] a2)
  | _ => False, fun a H => match a with
  | [a0, a1, a2] => shv 3 H.length (F (de α0 [] a0) (de α1 [] a1) (de α2 [] a2))
  | _ => .any, fun a H => match a with
  | [a0, a1, a2] => H ++ (G (de α0 [] a0) (de α1 [] a1) (de α2 [] a2)).map (shO H.length)
  | _ => H⟩
@[simp] theorem O3_pre {α0 α1 α2 : Type} [Cel α0] [Cel α1] [Cel α2] (pre : α0 → α1 → α2 → Prop) (F : α0 → α1 → α2 → AV) (G : α0 → α1 → α2 → List AObj) (a0 a1 a2 : AV) (H : List AObj) : (O3 pre F G).pre [a0, a1, a2] H = ((okA α0 [] a0 ∧ okA α1 [] a1 ∧ okA α2 [] a2) ∧ pre (de α0 [] a0) (de α1 [] a1) (de α2 [] a2)) := rfl
@[simp] theorem O3_val {α0 α1 α2 : Type} [Cel α0] [Cel α1] [Cel α2] (pre : α0 → α1 → α2 → Prop) (F : α0 → α1 → α2 → AV) (G : α0 → α1 → α2 → List AObj) (a0 a1 a2 : AV) (H : List AObj) : (O3 pre F G).val [a0, a1, a2] H = shv 3 H.length (F (de α0 [] a0) (de α1 [] a1) (de α2 [] a2)) := rfl
@[simp] theorem O3_hp {α0 α1 α2 : Type} [Cel α0] [Cel α1] [Cel α2] (pre : α0 → α1 → α2 → Prop) (F : α0 → α1 → α2 → AV) (G : α0 → α1 → α2 → List AObj) (a0 a1 a2 : AV) (H : List AObj) : (O3 pre F G).hp [a0, a1, a2] H = H ++ (G (de α0 [] a0) (de α1 [] a1) (de α2 [] a2)).map (shO H.length) := rfl
/-- A contract of a function that leaves new memory. -/
def O4 {α0 α1 α2 α3 : Type} [Cel α0] [Cel α1] [Cel α2] [Cel α3] (pre : α0 → α1 → α2 → α3 → Prop) (F : α0 → α1 → α2 → α3 → AV) (G : α0 → α1 → α2 → α3 → List AObj) : Ctr := ⟨fun a H => match a with
  | [a0, a1, a2, a3] => (okA α0 [] a0 ∧ okA α1 [] a1 ∧ okA α2 [] a2 ∧ okA α3 [] a3) ∧ pre (de α0 [] a0) (de α1 [] a1) (de α2 [] a2) (de α3 [] a3)
  | _ => False, fun a H => match a with
  | [a0, a1, a2, a3] => shv 3 H.length (F (de α0 [] a0) (de α1 [] a1) (de α2 [] a2) (de α3 [] a3))
  | _ => .any, fun a H => match a with
  | [a0, a1, a2, a3] => H ++ (G (de α0 [] a0) (de α1 [] a1) (de α2 [] a2) (de α3 [] a3)).map (shO H.length)
  | _ => H⟩
@[simp] theorem O4_pre {α0 α1 α2 α3 : Type} [Cel α0] [Cel α1] [Cel α2] [Cel α3] (pre : α0 → α1 → α2 → α3 → Prop) (F : α0 → α1 → α2 → α3 → AV) (G : α0 → α1 → α2 → α3 → List AObj) (a0 a1 a2 a3 : AV) (H : List AObj) : (O4 pre F G).pre [a0, a1, a2, a3] H = ((okA α0 [] a0 ∧ okA α1 [] a1 ∧ okA α2 [] a2 ∧ okA α3 [] a3) ∧ pre (de α0 [] a0) (de α1 [] a1) (de α2 [] a2) (de α3 [] a3)) := rfl
@[simp] theorem O4_val {α0 α1 α2 α3 : Type} [Cel α0] [Cel α1] [Cel α2] [Cel α3] (pre : α0 → α1 → α2 → α3 → Prop) (F : α0 → α1 → α2 → α3 → AV) (G : α0 → α1 → α2 → α3 → List AObj) (a0 a1 a2 a3 : AV) (H : List AObj) : (O4 pre F G).val [a0, a1, a2, a3] H = shv 3 H.length (F (de α0 [] a0) (de α1 [] a1) (de α2 [] a2) (de α3 [] a3)) := rfl
@[simp] theorem O4_hp {α0 α1 α2 α3 : Type} [Cel α0] [Cel α1] [Cel α2] [Cel α3] (pre : α0 → α1 → α2 → α3 → Prop) (F : α0 → α1 → α2 → α3 → AV) (G : α0 → α1 → α2 → α3 → List AObj) (a0 a1 a2 a3 : AV) (H : List AObj) : (O4 pre F G).hp [a0, a1, a2, a3] H = H ++ (G (de α0 [] a0) (de α1 [] a1) (de α2 [] a2) (de α3 [] a3)).map (shO H.length) := rfl
/-- A contract of a function that leaves new memory. -/
def O5 {α0 α1 α2 α3 α4 : Type} [Cel α0] [Cel α1] [Cel α2] [Cel α3] [Cel α4] (pre : α0 → α1 → α2 → α3 → α4 → Prop) (F : α0 → α1 → α2 → α3 → α4 → AV) (G : α0 → α1 → α2 → α3 → α4 → List AObj) : Ctr := ⟨fun a H => match a with
  | [a0, a1, a2, a3, a4] => (okA α0 [] a0 ∧ okA α1 [] a1 ∧ okA α2 [] a2 ∧ okA α3 [] a3 ∧ okA α4 [] a4) ∧ pre (de α0 [] a0) (de α1 [] a1) (de α2 [] a2) (de α3 [] a3) (de α4 [] a4)
  | _ => False, fun a H => match a with
  | [a0, a1, a2, a3, a4] => shv 3 H.length (F (de α0 [] a0) (de α1 [] a1) (de α2 [] a2) (de α3 [] a3) (de α4 [] a4))
  | _ => .any, fun a H => match a with
  | [a0, a1, a2, a3, a4] => H ++ (G (de α0 [] a0) (de α1 [] a1) (de α2 [] a2) (de α3 [] a3) (de α4 [] a4)).map (shO H.length)
  | _ => H⟩
@[simp] theorem O5_pre {α0 α1 α2 α3 α4 : Type} [Cel α0] [Cel α1] [Cel α2] [Cel α3] [Cel α4] (pre : α0 → α1 → α2 → α3 → α4 → Prop) (F : α0 → α1 → α2 → α3 → α4 → AV) (G : α0 → α1 → α2 → α3 → α4 → List AObj) (a0 a1 a2 a3 a4 : AV) (H : List AObj) : (O5 pre F G).pre [a0, a1, a2, a3, a4] H = ((okA α0 [] a0 ∧ okA α1 [] a1 ∧ okA α2 [] a2 ∧ okA α3 [] a3 ∧ okA α4 [] a4) ∧ pre (de α0 [] a0) (de α1 [] a1) (de α2 [] a2) (de α3 [] a3) (de α4 [] a4)) := rfl
@[simp] theorem O5_val {α0 α1 α2 α3 α4 : Type} [Cel α0] [Cel α1] [Cel α2] [Cel α3] [Cel α4] (pre : α0 → α1 → α2 → α3 → α4 → Prop) (F : α0 → α1 → α2 → α3 → α4 → AV) (G : α0 → α1 → α2 → α3 → α4 → List AObj) (a0 a1 a2 a3 a4 : AV) (H : List AObj) : (O5 pre F G).val [a0, a1, a2, a3, a4] H = shv 3 H.length (F (de α0 [] a0) (de α1 [] a1) (de α2 [] a2) (de α3 [] a3) (de α4 [] a4)) := rfl
@[simp] theorem O5_hp {α0 α1 α2 α3 α4 : Type} [Cel α0] [Cel α1] [Cel α2] [Cel α3] [Cel α4] (pre : α0 → α1 → α2 → α3 → α4 → Prop) (F : α0 → α1 → α2 → α3 → α4 → AV) (G : α0 → α1 → α2 → α3 → α4 → List AObj) (a0 a1 a2 a3 a4 : AV) (H : List AObj) : (O5 pre F G).hp [a0, a1, a2, a3, a4] H = H ++ (G (de α0 [] a0) (de α1 [] a1) (de α2 [] a2) (de α3 [] a3) (de α4 [] a4)).map (shO H.length) := rfl
end Go.Proofs.Ytnjpfoblmomnlaa.Sx
