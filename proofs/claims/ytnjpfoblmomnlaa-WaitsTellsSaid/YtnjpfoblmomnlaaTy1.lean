/- Types whose values lie in rows of cells; contracts of functions over such values. No conditions: a kit of our own. -/
import Derived.Test.YtnjpfoblmomnlaaSx23
namespace Go.Proofs.Ytnjpfoblmomnlaa.Sx
open Go Go.RowKit
set_option linter.unusedVariables false
set_option linter.unusedSimpArgs false

/-! ### a pure function, called with slices of one's own -/
/-- What holds of a value whatever is whose. -/
def Flat (x : AV) : Prop := ∀ (E E' : Env) (v : Value), VRel E x v → VRel E' x v
theorem flat_bool (b : Bool) : Flat (.bool b) := fun E E' v h => by cases h; exact .bool b
theorem flat_int (k : IntKind) (n : Int) : Flat (.int k n) := fun E E' v h => by cases h; exact .int k n
theorem flat_tup {l : List AV} (h : ∀ x ∈ l, Flat x) : Flat (.tup l) := fun E E' v hv => by
  cases hv with
  | tup hl h' => exact .tup hl fun i a v h1 h2 => h a (List.mem_of_getElem? h1) E E' v (h' i a v h1 h2)
theorem flat_ite {c : Prop} [Decidable c] {x y : AV} (hx : Flat x) (hy : Flat y) : Flat (if c then x else y) := by split <;> assumption

theorem Det.pureZ {P : Program} {f : FuncId} {args args0 : List AV} {x : AV} {H : List AObj} (hd : Det P f args0 [] x []) (ha : Each (Seen H (fun _ _ => False)) args args0) (hx : Flat x) : Det P f args H x H := by
  obtain ⟨hc, hd⟩ := hd
  refine ⟨hc, fun E vs hH hv => ?_⟩
  let E0 : Env := ⟨E.w, fun _ => none, 0, ⟨E.x.p, fun _ => none⟩⟩
  have fr : ∀ b, E.free b → E0.free b := fun b hb => ⟨hb.1, fun id l h => (by cases h), hb.2.2⟩
  have own : ∀ i l, E.s i = some l → E0.free l.b := fun i l h => ⟨hH.own_lt h, fun id l h => (by cases h), hH.apart i l h⟩
  have oth : Other H (fun _ _ => False) E E0 := ⟨rfl, fr, fun i j h => h.elim, .inr hH, .inr fun i l h _ => own i l h⟩
  have hH0 : HRel E0 [] := ⟨rfl, fun id l h => (by cases h), fun id o h => (by simp at h), fun i j li lj h => (by cases h), fun id l h => (by cases h), hH.xlt⟩
  have hv0 : VRels E0 args0 vs := ⟨by rw [hv.len, ha.1], fun i a v h1 h2 => by
    obtain ⟨b, hb⟩ := get_of_len ha.1 h1
    exact (ha.2 i b a hb h1).rel oth v (hv.at_ i b v hb h2)⟩
  refine (hd E0 vs hH0 hv0).mono fun e w' hr => ?_
  obtain ⟨v, E0', r, H1', he, hw, hrv, hH1, hext, hr1, hr2⟩ := hr
  subst hr1
  subst hr2
  let E' : Env := ⟨E0'.w, E.s, E.n, E.x⟩
  have keep : ∀ i l, E.s i = some l → E0'.w.heap[l.b]? = E.w.heap[l.b]? := fun i l h => (hext.keep _ (own i l h)).1
  have ext : Ext H.length E E' := by
    refine ⟨hext.os, hext.tape, hext.output, hext.size, fun b hb => ?_, fun i l hi hl => hl, hext.room, by rw [← hH.n]; exact Nat.le_refl _, fun _ => Iff.rfl, fun b hb => hext.keepx b ⟨hb.1, rfl⟩⟩
    obtain ⟨h1, h2⟩ := hext.keep b (fr b hb)
    exact ⟨h1, h2.1, hb.2.1, hb.2.2⟩
  refine ⟨v, E', r, H, he, hw, hx _ _ _ hrv, ⟨hH.n, fun i l hi => ?_, hH.live, hH.inj, hH.apart, fun b hb => ?_⟩, ext, rfl, rfl⟩
  · obtain ⟨o, h5, h6⟩ := hH.has i l hi
    exact ⟨o, h5, h6.keep (by rw [hH.n]; exact Nat.le_refl _) ext (keep i l hi) fun b => ⟨fun hb => hext.keepx b ⟨hb.1, rfl⟩, Iff.rfl⟩⟩
  · have := hext.size
    exact Nat.lt_of_lt_of_le (hH.xlt b hb) this

/-! ### types -/
class Cel (α : Type) where
  n : Nat
  agg : Bool
  c : α → List AV
  u : List AObj → List AV → α
  ok : List AObj → List AV → Prop
  len : ∀ x, (c x).length = n
  plain : ∀ x, ∀ a ∈ c x, a.plain = true
  closed : ∀ x, ∀ a ∈ c x, Closed a
  nn : ∀ x, AV.nils ∉ c x
  one : agg = false → n = 1
  u_c : ∀ H x, u H (c x) = x
  ok_c : ∀ H x, ok H (c x)
  seen : ∀ H cs, ok H cs → Each (Seen H (fun _ _ => False)) cs (c (u H cs))
attribute [simp] Cel.u_c Cel.ok_c

section
variable {α : Type} [Cel α]
def en (x : α) : AV := if Cel.agg α then .agg (Cel.c x) else nth (Cel.c x) 0 .any
def isAgg : AV → Bool
  | .agg _ => true
  | _ => false
def de (α : Type) [Cel α] (H : List AObj) (a : AV) : α := Cel.u H (cellsL a)
def okA (α : Type) [Cel α] (H : List AObj) (a : AV) : Prop := isAgg a = Cel.agg α ∧ Cel.ok (α := α) H (cellsL a)
theorem one_cell (h : Cel.agg α = false) (x : α) : ∃ a, Cel.c x = [a] ∧ a.plain = true := by
  have hl := Cel.len x
  rw [Cel.one h] at hl
  match hc : Cel.c x, hl with
  | [a], _ => exact ⟨a, rfl, Cel.plain x a (by rw [hc]; simp)⟩
theorem cellsL_plain {a : AV} (h : a.plain = true) : cellsL a = [a] := by
  cases a <;> first | rfl | (simp [AV.plain] at h)
theorem isAgg_plain {a : AV} (h : a.plain = true) : isAgg a = false := by
  cases a <;> first | rfl | (simp [AV.plain] at h)
theorem cellsL_noagg {a : AV} (h : isAgg a = false) : cellsL a = [a] := by
  cases a <;> first | rfl | (simp [isAgg] at h)
theorem cellsL_en (x : α) : cellsL (en x) = Cel.c x := by
  unfold en
  cases h : Cel.agg α
  · obtain ⟨a, ha, hp⟩ := one_cell h x
    simp only [ha, Bool.false_eq_true, if_false, nth_zero]
    exact cellsL_plain hp
  · simp only [if_true, cellsL]
theorem isAgg_en (x : α) : isAgg (en x) = Cel.agg α := by
  unfold en
  cases h : Cel.agg α
  · obtain ⟨a, ha, hp⟩ := one_cell h x
    simp only [ha, Bool.false_eq_true, if_false, nth_zero]
    exact isAgg_plain hp
  · simp only [if_true, isAgg]
@[simp] theorem de_en (H : List AObj) (x : α) : de α H (en x) = x := by unfold de; rw [cellsL_en]; exact Cel.u_c H x
@[simp] theorem okA_en (H : List AObj) (x : α) : okA α H (en x) := ⟨isAgg_en x, by rw [cellsL_en]; exact Cel.ok_c H x⟩
theorem closed_en (x : α) : Closed (en x) := by
  unfold en
  cases h : Cel.agg α
  · obtain ⟨a, ha, hp⟩ := one_cell h x
    simp only [ha, Bool.false_eq_true, if_false, nth_zero]
    exact Cel.closed x a (by rw [ha]; simp)
  · simp only [if_true]
    exact .agg rfl fun i a b h1 h2 => by rw [h1] at h2; cases h2; exact Cel.closed x a (List.mem_of_getElem? h1)
theorem okA_seen {H : List AObj} {a : AV} (h : okA α H a) : Seen H (fun _ _ => False) a (en (de α H a)) := by
  obtain ⟨h1, h2⟩ := h
  have hs := Cel.seen H _ h2
  unfold en de
  cases hg : Cel.agg α
  · rw [hg] at h1
    rw [cellsL_noagg h1] at hs ⊢
    obtain ⟨b, hb, hp⟩ := one_cell hg (Cel.u (α := α) H [a])
    rw [hb] at hs ⊢
    simp only [Bool.false_eq_true, if_false, nth_zero]
    exact hs.2 0 a b rfl rfl
  · rw [hg] at h1
    cases a <;> first | (simp [isAgg] at h1; done) | skip
    simp only [if_true]
    exact .agg hs.1 hs.2
end

instance : Cel Int where
  n := 1
  agg := false
  c x := [.int .i64 x]
  u H cs := numOf (nth cs 0 .any)
  ok H cs := match cs with | [.int .i64 _] => True | _ => False
  len x := rfl
  plain x a h := by simp at h; subst h; rfl
  closed x a h := by simp at h; subst h; exact .int _ _
  nn x := by simp
  one _ := rfl
  u_c H x := rfl
  ok_c H x := trivial
  seen H cs h := by
    split at h
    · exact ⟨rfl, fun i a b h1 h2 => by
        match i with
        | 0 => simp [numOf] at h1 h2; subst h1; subst h2; exact .int _ _
        | i + 1 => simp at h1⟩
    · exact h.elim
instance : Cel Bool where
  n := 1
  agg := false
  c x := [.bool x]
  u H cs := bval (nth cs 0 .any)
  ok H cs := match cs with | [.bool _] => True | _ => False
  len x := rfl
  plain x a h := by simp at h; subst h; rfl
  closed x a h := by simp at h; subst h; exact .bool _
  nn x := by simp
  one _ := rfl
  u_c H x := rfl
  ok_c H x := trivial
  seen H cs h := by
    split at h
    · exact ⟨rfl, fun i a b h1 h2 => by
        match i with
        | 0 => simp [bval] at h1 h2; subst h1; subst h2; exact .bool _
        | i + 1 => simp at h1⟩
    · exact h.elim
instance : Cel (BitVec 64) where
  n := 1
  agg := false
  c x := [.int .u64 x.toNat]
  u H cs := BitVec.ofInt 64 (numOf (nth cs 0 .any))
  ok H cs := match cs with | [.int .u64 m] => 0 ≤ m ∧ m < 18446744073709551616 | _ => False
  len x := rfl
  plain x a h := by simp at h; subst h; rfl
  closed x a h := by simp at h; subst h; exact .int _ _
  nn x := by simp
  one _ := rfl
  u_c H x := by simp [numOf]
  ok_c H x := ⟨by omega, by have := x.isLt; omega⟩
  seen H cs h := by
    split at h
    · rename_i m
      exact ⟨rfl, fun i a b h1 h2 => by
        match i with
        | 0 =>
          simp only [nth_zero, numOf, List.getElem?_cons_zero, Option.some.injEq] at h1 h2
          subst h1; subst h2
          have e : ((BitVec.ofInt 64 m).toNat : Int) = m := by
            rw [BitVec.toNat_ofInt]; omega
          rw [e]; exact .int _ _
        | i + 1 => simp at h1⟩
    · exact h.elim
instance : Cel (BitVec 32) where
  n := 1
  agg := false
  c x := [.int .u32 x.toNat]
  u H cs := BitVec.ofInt 32 (numOf (nth cs 0 .any))
  ok H cs := match cs with | [.int .u32 m] => 0 ≤ m ∧ m < 4294967296 | _ => False
  len x := rfl
  plain x a h := by simp at h; subst h; rfl
  closed x a h := by simp at h; subst h; exact .int _ _
  nn x := by simp
  one _ := rfl
  u_c H x := by simp [numOf]
  ok_c H x := ⟨by omega, by have := x.isLt; omega⟩
  seen H cs h := by
    split at h
    · rename_i m
      exact ⟨rfl, fun i a b h1 h2 => by
        match i with
        | 0 =>
          simp only [nth_zero, numOf, List.getElem?_cons_zero, Option.some.injEq] at h1 h2
          subst h1; subst h2
          have e : ((BitVec.ofInt 32 m).toNat : Int) = m := by
            rw [BitVec.toNat_ofInt]; omega
          rw [e]; exact .int _ _
        | i + 1 => simp at h1⟩
    · exact h.elim
instance : Cel (BitVec 16) where
  n := 1
  agg := false
  c x := [.int .u16 x.toNat]
  u H cs := BitVec.ofInt 16 (numOf (nth cs 0 .any))
  ok H cs := match cs with | [.int .u16 m] => 0 ≤ m ∧ m < 65536 | _ => False
  len x := rfl
  plain x a h := by simp at h; subst h; rfl
  closed x a h := by simp at h; subst h; exact .int _ _
  nn x := by simp
  one _ := rfl
  u_c H x := by simp [numOf]
  ok_c H x := ⟨by omega, by have := x.isLt; omega⟩
  seen H cs h := by
    split at h
    · rename_i m
      exact ⟨rfl, fun i a b h1 h2 => by
        match i with
        | 0 =>
          simp only [nth_zero, numOf, List.getElem?_cons_zero, Option.some.injEq] at h1 h2
          subst h1; subst h2
          have e : ((BitVec.ofInt 16 m).toNat : Int) = m := by
            rw [BitVec.toNat_ofInt]; omega
          rw [e]; exact .int _ _
        | i + 1 => simp at h1⟩
    · exact h.elim
instance : Cel (BitVec 8) where
  n := 1
  agg := false
  c x := [.int .u8 x.toNat]
  u H cs := BitVec.ofInt 8 (numOf (nth cs 0 .any))
  ok H cs := match cs with | [.int .u8 m] => 0 ≤ m ∧ m < 256 | _ => False
  len x := rfl
  plain x a h := by simp at h; subst h; rfl
  closed x a h := by simp at h; subst h; exact .int _ _
  nn x := by simp
  one _ := rfl
  u_c H x := by simp [numOf]
  ok_c H x := ⟨by omega, by have := x.isLt; omega⟩
  seen H cs h := by
    split at h
    · rename_i m
      exact ⟨rfl, fun i a b h1 h2 => by
        match i with
        | 0 =>
          simp only [nth_zero, numOf, List.getElem?_cons_zero, Option.some.injEq] at h1 h2
          subst h1; subst h2
          have e : ((BitVec.ofInt 8 m).toNat : Int) = m := by
            rw [BitVec.toNat_ofInt]; omega
          rw [e]; exact .int _ _
        | i + 1 => simp at h1⟩
    · exact h.elim
instance {α : Type} [Cel α] : Cel (List α) where
  n := 1
  agg := false
  c xs := [.view (xs.map Cel.c)]
  u H cs := match cs with
    | [.view rows] => rows.map (Cel.u H)
    | [.cv rows] => rows.map (Cel.u H)
    | [.sl id r l] => (((rowsOf H id).drop r).take l).map (Cel.u H)
    | _ => []
  ok H cs := match cs with
    | [.nils] => True
    | [.view rows] => ∀ r ∈ rows, Cel.ok (α := α) H r
    | [.cv rows] => ∀ r ∈ rows, Cel.ok (α := α) H r
    | [.sl id r l] => isRows H id ∧ r + l ≤ (rowsOf H id).length ∧ ∀ row ∈ ((rowsOf H id).drop r).take l, Cel.ok (α := α) H row
    | _ => False
  len x := rfl
  plain x a h := by simp at h; subst h; rfl
  closed x a h := by
    simp only [List.mem_singleton] at h; subst h
    exact closed_rows fun r hr a ha => by
      obtain ⟨y, _, rfl⟩ := List.mem_map.1 hr
      exact Cel.closed y a ha
  nn x := by simp
  one _ := rfl
  u_c H x := by simp only [List.map_map]; conv => rhs; rw [← List.map_id x]
                apply List.map_congr_left; intro y _; exact Cel.u_c H y
  ok_c H x := fun r hr => by
    obtain ⟨y, _, rfl⟩ := List.mem_map.1 hr
    exact Cel.ok_c H y
  seen H cs h := by
    have row1 : ∀ row : List AV, Cel.ok (α := α) H row → Each (Seen H (fun _ _ => False)) row (Cel.c (Cel.u (α := α) H row)) := fun row hr => Cel.seen H row hr
    split at h
    · exact ⟨rfl, fun i a b h1 h2 => by
        match i with
        | 0 => simp at h1 h2; subst h1; subst h2; exact .nilv
        | i + 1 => simp at h1⟩
    · rename_i rows
      refine ⟨rfl, fun i a b h1 h2 => ?_⟩
      match i with
      | 0 =>
        simp only [List.getElem?_cons_zero, Option.some.injEq] at h1 h2
        subst h1; subst h2
        have at_ : ∀ (i : Nat) (r r' : List AV), rows[i]? = some r → (List.map Cel.c (List.map (Cel.u (α := α) H) rows))[i]? = some r' → Each (Seen H (fun _ _ => False)) r r' := fun i r r' h1 h2 => by
          simp only [List.getElem?_map, h1, Option.map_some, Option.some.injEq] at h2
          subst h2
          exact row1 r (h r (List.mem_of_getElem? h1))
        exact .view (by simp) (fun i r r' h1 h2 => (at_ i r r' h1 h2).1) fun i r r' j a b h1 h2 h3 h4 => (at_ i r r' h1 h2).2 j a b h3 h4
      | i + 1 => simp at h1
    · rename_i rows
      refine ⟨rfl, fun i a b h1 h2 => ?_⟩
      match i with
      | 0 =>
        simp only [List.getElem?_cons_zero, Option.some.injEq] at h1 h2
        subst h1; subst h2
        have at_ : ∀ (i : Nat) (r r' : List AV), rows[i]? = some r → (List.map Cel.c (List.map (Cel.u (α := α) H) rows))[i]? = some r' → Each (Seen H (fun _ _ => False)) r r' := fun i r r' h1 h2 => by
          simp only [List.getElem?_map, h1, Option.map_some, Option.some.injEq] at h2
          subst h2
          exact row1 r (h r (List.mem_of_getElem? h1))
        exact .cvv (.view (by simp) (fun i r r' h1 h2 => (at_ i r r' h1 h2).1) fun i r r' j a b h1 h2 h3 h4 => (at_ i r r' h1 h2).2 j a b h3 h4)
      | i + 1 => simp at h1
    · rename_i id r l
      obtain ⟨k1, k2, k3⟩ := h
      obtain ⟨sz, rs, e, e1, e2⟩ := isRows_some k1
      refine ⟨rfl, fun i a b h1 h2 => ?_⟩
      match i with
      | 0 =>
        simp only [List.getElem?_cons_zero, Option.some.injEq] at h1 h2
        subst h1; subst h2
        rw [e1] at k2 k3 ⊢
        have at_ : ∀ (i : Nat) (x x' : List AV), rs[r + i]? = some x → (List.map Cel.c (List.map (Cel.u (α := α) H) (List.take l (List.drop r rs))))[i]? = some x' → Each (Seen H (fun _ _ => False)) x x' := fun i x x' h1 h2 => by
          simp only [List.getElem?_map, Option.map_eq_some_iff] at h2
          obtain ⟨y, ⟨z, hz, rfl⟩, rfl⟩ := h2
          have hm := List.mem_of_getElem? hz
          rw [List.getElem?_take, List.getElem?_drop] at hz
          split at hz
          · rw [h1] at hz; cases hz; exact row1 x (k3 x hm)
          · cases hz
        exact .fz e (fun j h => h) k2 (by simp; omega) (fun i x x' h1 h2 => (at_ i x x' h1 h2).1) fun i x x' j a b h1 h2 h3 h4 => (at_ i x x' h1 h2).2 j a b h3 h4
      | i + 1 => simp at h1
    · exact h.elim
theorem each_app {α β : Type} {R : α → β → Prop} {a a' : List α} {b b' : List β} (h : Each R a b) (h' : Each R a' b') : Each R (a ++ a') (b ++ b') :=
  ⟨by simp [h.1, h'.1], fun i x y hx hy => by
    have hl := h.1
    by_cases hi : i < a.length
    · rw [List.getElem?_append_left hi] at hx
      rw [List.getElem?_append_left (by omega)] at hy
      exact h.2 i x y hx hy
    · rw [List.getElem?_append_right (by omega)] at hx
      rw [List.getElem?_append_right (by omega), hl] at hy
      exact h'.2 _ x y hx hy⟩
instance {α β : Type} [Cel α] [Cel β] : Cel (α × β) where
  n := Cel.n α + Cel.n β
  agg := true
  c x := Cel.c x.1 ++ Cel.c x.2
  u H cs := (Cel.u H (cs.take (Cel.n α)), Cel.u H (cs.drop (Cel.n α)))
  ok H cs := Cel.ok (α := α) H (cs.take (Cel.n α)) ∧ Cel.ok (α := β) H (cs.drop (Cel.n α))
  len x := by simp [Cel.len]
  plain x a h := by
    rcases List.mem_append.1 h with h | h
    · exact Cel.plain _ a h
    · exact Cel.plain _ a h
  closed x a h := by
    rcases List.mem_append.1 h with h | h
    · exact Cel.closed _ a h
    · exact Cel.closed _ a h
  nn x := by simp [Cel.nn]
  one h := by cases h
  u_c H x := by rw [List.take_left' (Cel.len x.1), List.drop_left' (Cel.len x.1), Cel.u_c, Cel.u_c]
  ok_c H x := by rw [List.take_left' (Cel.len x.1), List.drop_left' (Cel.len x.1)]; exact ⟨Cel.ok_c H _, Cel.ok_c H _⟩
  seen H cs h := by
    have := each_app (Cel.seen H _ h.1) (Cel.seen H _ h.2)
    rwa [List.take_append_drop] at this
/-- The same cells under another type. -/
@[reducible] def Cel.iso {α β : Type} [Cel β] (f : α → β) (g : β → α) (h : ∀ x, g (f x) = x) (h' : ∀ y, f (g y) = y) : Cel α where
  n := Cel.n β
  agg := Cel.agg β
  c x := Cel.c (f x)
  u H cs := g (Cel.u H cs)
  ok H cs := Cel.ok (α := β) H cs
  len x := Cel.len (f x)
  plain x := Cel.plain (f x)
  closed x := Cel.closed (f x)
  nn x := Cel.nn (f x)
  one := Cel.one (α := β)
  u_c H x := by rw [Cel.u_c, h]
  ok_c H x := Cel.ok_c H (f x)
  seen H cs hh := by rw [h']; exact Cel.seen H cs hh

/-! ### words for 'simp' -/
@[simp] theorem c_int (x : Int) : Cel.c x = [.int .i64 x] := rfl
@[simp] theorem c_bool (x : Bool) : Cel.c x = [.bool x] := rfl
@[simp] theorem c_u64 (x : BitVec 64) : Cel.c x = [.int .u64 x.toNat] := rfl
@[simp] theorem c_u32 (x : BitVec 32) : Cel.c x = [.int .u32 x.toNat] := rfl
@[simp] theorem c_u16 (x : BitVec 16) : Cel.c x = [.int .u16 x.toNat] := rfl
@[simp] theorem c_u8 (x : BitVec 8) : Cel.c x = [.int .u8 x.toNat] := rfl
section
variable {α β : Type} [Cel α] [Cel β]
@[simp] theorem c_list (xs : List α) : Cel.c xs = [.view (xs.map Cel.c)] := rfl
@[simp] theorem u_int (H : List AObj) (k : IntKind) (n : Int) : Cel.u (α := Int) H [.int k n] = n := rfl
@[simp] theorem u_bool (H : List AObj) (b : Bool) : Cel.u (α := Bool) H [.bool b] = b := rfl
@[simp] theorem u_u64 (H : List AObj) (n : Int) : Cel.u (α := BitVec 64) H [.int .u64 n] = BitVec.ofInt 64 n := rfl
@[simp] theorem u_u32 (H : List AObj) (n : Int) : Cel.u (α := BitVec 32) H [.int .u32 n] = BitVec.ofInt 32 n := rfl
@[simp] theorem u_u16 (H : List AObj) (n : Int) : Cel.u (α := BitVec 16) H [.int .u16 n] = BitVec.ofInt 16 n := rfl
@[simp] theorem u_u8 (H : List AObj) (n : Int) : Cel.u (α := BitVec 8) H [.int .u8 n] = BitVec.ofInt 8 n := rfl
@[simp] theorem u_view (H : List AObj) (rows : List (List AV)) : Cel.u (α := List α) H [.view rows] = rows.map (Cel.u H) := rfl
@[simp] theorem u_cv (H : List AObj) (rows : List (List AV)) : Cel.u (α := List α) H [.cv rows] = rows.map (Cel.u H) := rfl
@[simp] theorem okl_cv (H : List AObj) (rows : List (List AV)) : Cel.ok (α := List α) H [.cv rows] = ∀ r ∈ rows, Cel.ok (α := α) H r := rfl
@[simp high] theorem okl_cvc (H : List AObj) (xs : List α) : Cel.ok (α := List α) H [.cv (xs.map Cel.c)] := Cel.ok_c H xs
@[simp] theorem u_nils (H : List AObj) : Cel.u (α := List α) H [.nils] = [] := rfl
@[simp] theorem u_sl (H : List AObj) (id r l : Nat) : Cel.u (α := List α) H [.sl id r l] = (((rowsOf H id).drop r).take l).map (Cel.u H) := rfl
@[simp] theorem ok_int (H : List AObj) (n : Int) : Cel.ok (α := Int) H [.int .i64 n] = True := rfl
@[simp] theorem ok_bool (H : List AObj) (b : Bool) : Cel.ok (α := Bool) H [.bool b] = True := rfl
@[simp] theorem ok_u64 (H : List AObj) (n : Int) : Cel.ok (α := BitVec 64) H [.int .u64 n] = (0 ≤ n ∧ n < 18446744073709551616) := rfl
@[simp] theorem ok_u32 (H : List AObj) (n : Int) : Cel.ok (α := BitVec 32) H [.int .u32 n] = (0 ≤ n ∧ n < 4294967296) := rfl
@[simp] theorem ok_u16 (H : List AObj) (n : Int) : Cel.ok (α := BitVec 16) H [.int .u16 n] = (0 ≤ n ∧ n < 65536) := rfl
@[simp] theorem ok_u8 (H : List AObj) (n : Int) : Cel.ok (α := BitVec 8) H [.int .u8 n] = (0 ≤ n ∧ n < 256) := rfl
@[simp high] theorem ok_u64' (H : List AObj) (x : BitVec 64) : Cel.ok (α := BitVec 64) H [.int .u64 (x.toNat : Int)] := Cel.ok_c H x
@[simp high] theorem ok_u8' (H : List AObj) (x : BitVec 8) : Cel.ok (α := BitVec 8) H [.int .u8 (x.toNat : Int)] := Cel.ok_c H x
@[simp] theorem ok_view (H : List AObj) (rows : List (List AV)) : Cel.ok (α := List α) H [.view rows] = ∀ r ∈ rows, Cel.ok (α := α) H r := rfl
@[simp high] theorem ok_viewc (H : List AObj) (xs : List α) : Cel.ok (α := List α) H [.view (xs.map Cel.c)] := Cel.ok_c H xs
@[simp] theorem ok_nils (H : List AObj) : Cel.ok (α := List α) H [.nils] = True := rfl
@[simp] theorem ok_sl (H : List AObj) (id r l : Nat) : Cel.ok (α := List α) H [.sl id r l] = (isRows H id ∧ r + l ≤ (rowsOf H id).length ∧ ∀ row ∈ ((rowsOf H id).drop r).take l, Cel.ok (α := α) H row) := rfl
@[simp] theorem map_u_c (H : List AObj) (xs : List α) : (xs.map Cel.c).map (Cel.u H) = xs := Cel.u_c (α := List α) H xs
@[simp] theorem map_uc (H : List AObj) (xs : List α) : List.map (Cel.u H ∘ Cel.c) xs = xs := by rw [← List.map_map]; exact map_u_c H xs
@[simp] theorem map_c_inj {xs ys : List α} : xs.map Cel.c = ys.map Cel.c ↔ xs = ys := ⟨fun h => by rw [← map_u_c [] xs, h, map_u_c], fun h => by rw [h]⟩
theorem nth_c {d : α} {xs : List α} {n : Nat} {z : List AV} (h : z = Cel.c d) : nth (xs.map Cel.c) n z = Cel.c (nth xs n d) := by
  subst h
  exact nth_map Cel.c d xs n
theorem closed_cv {es : List (List AV)} (h : Closed (.view es)) : Closed (.cv es) := .cv h
theorem closed_viewc (xs : List α) : Closed (.view (xs.map Cel.c)) := Cel.closed xs _ (by simp)
end
@[simp] theorem en_int (x : Int) : en x = .int .i64 x := rfl
@[simp] theorem en_bool (x : Bool) : en x = .bool x := rfl
@[simp] theorem en_u64 (x : BitVec 64) : en x = .int .u64 x.toNat := rfl
@[simp] theorem en_u32 (x : BitVec 32) : en x = .int .u32 x.toNat := rfl
@[simp] theorem en_u16 (x : BitVec 16) : en x = .int .u16 x.toNat := rfl
@[simp] theorem en_u8 (x : BitVec 8) : en x = .int .u8 x.toNat := rfl
@[simp] theorem en_list {α : Type} [Cel α] (xs : List α) : en xs = .view (xs.map Cel.c) := rfl
@[simp] theorem en_pair {α β : Type} [Cel α] [Cel β] (x : α × β) : en x = .agg (Cel.c x.1 ++ Cel.c x.2) := rfl
@[simp] theorem isAgg_int (k : IntKind) (n : Int) : isAgg (.int k n) = false := rfl
@[simp] theorem isAgg_bool (b : Bool) : isAgg (.bool b) = false := rfl
@[simp] theorem isAgg_view (l : List (List AV)) : isAgg (.view l) = false := rfl
@[simp] theorem isAgg_cv (l : List (List AV)) : isAgg (.cv l) = false := rfl
@[simp] theorem isAgg_nils : isAgg .nils = false := rfl
@[simp] theorem isAgg_sl (a b c : Nat) : isAgg (.sl a b c) = false := rfl
@[simp] theorem isAgg_agg (l : List AV) : isAgg (.agg l) = true := rfl
@[simp] theorem agg_int : Cel.agg Int = false := rfl
@[simp] theorem agg_bool : Cel.agg Bool = false := rfl
@[simp] theorem agg_u64 : Cel.agg (BitVec 64) = false := rfl
@[simp] theorem agg_u32 : Cel.agg (BitVec 32) = false := rfl
@[simp] theorem agg_u16 : Cel.agg (BitVec 16) = false := rfl
@[simp] theorem agg_u8 : Cel.agg (BitVec 8) = false := rfl
@[simp] theorem agg_list {α : Type} [Cel α] : Cel.agg (List α) = false := rfl
@[simp] theorem agg_pair {α β : Type} [Cel α] [Cel β] : Cel.agg (α × β) = true := rfl
attribute [simp] de okA
@[simp] theorem nth_ci (xs : List Int) (n : Nat) : nth (xs.map Cel.c) n [.int .i64 0] = [.int .i64 (nth xs n 0)] := nth_c (d := (0 : Int)) rfl
@[simp] theorem nth_cb (xs : List Bool) (n : Nat) : nth (xs.map Cel.c) n [.bool false] = [.bool (nth xs n false)] := nth_c (d := false) rfl
@[simp] theorem nth_cu64 (xs : List (BitVec 64)) (n : Nat) : nth (xs.map Cel.c) n [.int .u64 0] = [.int .u64 (nth xs n 0#64).toNat] := nth_c (d := 0#64) rfl
@[simp] theorem nth_cu8 (xs : List (BitVec 8)) (n : Nat) : nth (xs.map Cel.c) n [.int .u8 0] = [.int .u8 (nth xs n 0#8).toNat] := nth_c (d := 0#8) rfl

/-! ### contracts: C, of a flat result; V, of any -/
theorem each_nil {α β : Type} {R : α → β → Prop} : Each R [] [] := ⟨rfl, fun i a b h => by simp at h⟩
theorem each_cons {α β : Type} {R : α → β → Prop} {x : α} {y : β} {a : List α} {b : List β} (h : R x y) (t : Each R a b) : Each R (x :: a) (y :: b) := each_app (a := [x]) (b := [y]) ⟨rfl, fun i a b h1 h2 => by
  match i with
  | 0 => simp at h1 h2; subst h1; subst h2; exact h
  | i + 1 => simp at h1⟩ t
theorem Det.pureV {P : Program} {f : FuncId} {args args0 : List AV} {x : AV} (hd : Det P f args0 [] x []) (ha : Each (Seen [] (fun _ _ => False)) args args0) (hx : Closed x) (H : List AObj) : Det P f args H x H := by
  refine hd.frame (ids := []) (H := H) ⟨rfl, fun i j k h => by simp at h, fun j i h => by simp at h, fun j i o' h => by simp at h, by simp, by simp, fun j i o' h => by simp [names] at h, fun i _ _ => rfl⟩ ⟨ha.1, fun i a b h1 h2 => ?_⟩ (hx.seen _ _)
  exact (ha.2 i a b h1 h2).mono (fun _ _ h => h.elim) (.inl rfl)
/-- A contract of a function without arguments. -/
def C0 (F : AV) : Ctr := ⟨fun a _ => a = [], fun _ _ => F, fun _ H => H⟩
@[simp] theorem C0_pre (F : AV) (H : List AObj) : (C0 F).pre [] H = True := by simp [C0]
@[simp] theorem C0_val (F : AV) (a : List AV) (H : List AObj) : (C0 F).val a H = F := rfl
@[simp] theorem C0_hp (F : AV) (a : List AV) (H : List AObj) : (C0 F).hp a H = H := rfl
theorem known_C0 {P : Program} {f : FuncId} {F : AV} (h : Det P f [] [] F []) (hc : Closed F) : Known P f (C0 F) := by
  rintro args H rfl
  exact h.pure (by simp) hc H
def C1 {α0 : Type} [Cel α0] (pre : α0 → Prop) (F : α0 → AV) : Ctr := ⟨fun a H => match a with
  | [a0] => (okA α0 H a0) ∧ pre (de α0 H a0)
  | _ => False, fun a H => match a with
  | [a0] => F (de α0 H a0)
  | _ => .any, fun _ H => H⟩
@[simp] theorem C1_pre {α0 : Type} [Cel α0] (pre : α0 → Prop) (F : α0 → AV) (a0 : AV) (H : List AObj) : (C1 pre F).pre [a0] H = ((okA α0 H a0) ∧ pre (de α0 H a0)) := rfl
@[simp] theorem C1_val {α0 : Type} [Cel α0] (pre : α0 → Prop) (F : α0 → AV) (a0 : AV) (H : List AObj) : (C1 pre F).val [a0] H = F (de α0 H a0) := rfl
@[simp] theorem C1_hp {α0 : Type} [Cel α0] (pre : α0 → Prop) (F : α0 → AV) (a : List AV) (H : List AObj) : (C1 pre F).hp a H = H := rfl
theorem known_C1 {P : Program} {f : FuncId} {α0 : Type} [Cel α0] {pre : α0 → Prop} {F : α0 → AV} (h : ∀ x0, pre x0 → Det P f [en x0] [] (F x0) []) (hc : ∀ x0, Flat (F x0)) : Known P f (C1 pre F) := fun args H hp0 => by
  match args, hp0 with
  | [a0], hp0 =>
    obtain ⟨h0, hp⟩ := hp0
    exact Det.pureZ (h _ hp) (each_cons (okA_seen h0) each_nil) (hc _)
def V1 {α0 : Type} [Cel α0] (pre : α0 → Prop) (F : α0 → AV) : Ctr := ⟨fun a H => match a with
  | [a0] => (okA α0 [] a0) ∧ pre (de α0 [] a0)
  | _ => False, fun a H => match a with
  | [a0] => F (de α0 [] a0)
  | _ => .any, fun _ H => H⟩
@[simp] theorem V1_pre {α0 : Type} [Cel α0] (pre : α0 → Prop) (F : α0 → AV) (a0 : AV) (H : List AObj) : (V1 pre F).pre [a0] H = ((okA α0 [] a0) ∧ pre (de α0 [] a0)) := rfl
@[simp] theorem V1_val {α0 : Type} [Cel α0] (pre : α0 → Prop) (F : α0 → AV) (a0 : AV) (H : List AObj) : (V1 pre F).val [a0] H = F (de α0 [] a0) := rfl
@[simp] theorem V1_hp {α0 : Type} [Cel α0] (pre : α0 → Prop) (F : α0 → AV) (a : List AV) (H : List AObj) : (V1 pre F).hp a H = H := rfl
theorem known_V1 {P : Program} {f : FuncId} {α0 : Type} [Cel α0] {pre : α0 → Prop} {F : α0 → AV} (h : ∀ x0, pre x0 → Det P f [en x0] [] (F x0) []) (hc : ∀ x0, pre x0 → Closed (F x0)) : Known P f (V1 pre F) := fun args H hp0 => by
  match args, hp0 with
  | [a0], hp0 =>
    obtain ⟨h0, hp⟩ := hp0
    exact Det.pureV (h _ hp) (each_cons (okA_seen h0) each_nil) (hc _ hp) H
def C2 {α0 α1 : Type} [Cel α0] [Cel α1] (pre : α0 → α1 → Prop) (F : α0 → α1 → AV) : Ctr := ⟨fun a H => match a with
  | [a0, a1] => (okA α0 H a0 ∧ okA α1 H a1) ∧ pre (de α0 H a0) (de α1 H a1)
  | _ => False, fun a H => match a with
  | [a0, a1] => F (de α0 H a0) (de α1 H a1)
  | _ => .any, fun _ H => H⟩
@[simp] theorem C2_pre {α0 α1 : Type} [Cel α0] [Cel α1] (pre : α0 → α1 → Prop) (F : α0 → α1 → AV) (a0 a1 : AV) (H : List AObj) : (C2 pre F).pre [a0, a1] H = ((okA α0 H a0 ∧ okA α1 H a1) ∧ pre (de α0 H a0) (de α1 H a1)) := rfl
@[simp] theorem C2_val {α0 α1 : Type} [Cel α0] [Cel α1] (pre : α0 → α1 → Prop) (F : α0 → α1 → AV) (a0 a1 : AV) (H : List AObj) : (C2 pre F).val [a0, a1] H = F (de α0 H a0) (de α1 H a1) := rfl
@[simp] theorem C2_hp {α0 α1 : Type} [Cel α0] [Cel α1] (pre : α0 → α1 → Prop) (F : α0 → α1 → AV) (a : List AV) (H : List AObj) : (C2 pre F).hp a H = H := rfl
theorem known_C2 {P : Program} {f : FuncId} {α0 α1 : Type} [Cel α0] [Cel α1] {pre : α0 → α1 → Prop} {F : α0 → α1 → AV} (h : ∀ x0 x1, pre x0 x1 → Det P f [en x0, en x1] [] (F x0 x1) []) (hc : ∀ x0 x1, Flat (F x0 x1)) : Known P f (C2 pre F) := fun args H hp0 => by
  match args, hp0 with
  | [a0, a1], hp0 =>
    obtain ⟨⟨h0, h1⟩, hp⟩ := hp0
    exact Det.pureZ (h _ _ hp) (each_cons (okA_seen h0) (each_cons (okA_seen h1) each_nil)) (hc _ _)
def V2 {α0 α1 : Type} [Cel α0] [Cel α1] (pre : α0 → α1 → Prop) (F : α0 → α1 → AV) : Ctr := ⟨fun a H => match a with
  | [a0, a1] => (okA α0 [] a0 ∧ okA α1 [] a1) ∧ pre (de α0 [] a0) (de α1 [] a1)
  | _ => False, fun a H => match a with
  | [a0, a1] => F (de α0 [] a0) (de α1 [] a1)
  | _ => .any, fun _ H => H⟩
@[simp] theorem V2_pre {α0 α1 : Type} [Cel α0] [Cel α1] (pre : α0 → α1 → Prop) (F : α0 → α1 → AV) (a0 a1 : AV) (H : List AObj) : (V2 pre F).pre [a0, a1] H = ((okA α0 [] a0 ∧ okA α1 [] a1) ∧ pre (de α0 [] a0) (de α1 [] a1)) := rfl
@[simp] theorem V2_val {α0 α1 : Type} [Cel α0] [Cel α1] (pre : α0 → α1 → Prop) (F : α0 → α1 → AV) (a0 a1 : AV) (H : List AObj) : (V2 pre F).val [a0, a1] H = F (de α0 [] a0) (de α1 [] a1) := rfl
@[simp] theorem V2_hp {α0 α1 : Type} [Cel α0] [Cel α1] (pre : α0 → α1 → Prop) (F : α0 → α1 → AV) (a : List AV) (H : List AObj) : (V2 pre F).hp a H = H := rfl
theorem known_V2 {P : Program} {f : FuncId} {α0 α1 : Type} [Cel α0] [Cel α1] {pre : α0 → α1 → Prop} {F : α0 → α1 → AV} (h : ∀ x0 x1, pre x0 x1 → Det P f [en x0, en x1] [] (F x0 x1) []) (hc : ∀ x0 x1, pre x0 x1 → Closed (F x0 x1)) : Known P f (V2 pre F) := fun args H hp0 => by
  match args, hp0 with
  | [a0, a1], hp0 =>
    obtain ⟨⟨h0, h1⟩, hp⟩ := hp0
    exact Det.pureV (h _ _ hp) (each_cons (okA_seen h0) (each_cons (okA_seen h1) each_nil)) (hc _ _ hp) H
def C3 {α0 α1 α2 : Type} [Cel α0] [Cel α1] [Cel α2] (pre : α0 → α1 → α2 → Prop) (F : α0 → α1 → α2 → AV) : Ctr := ⟨fun a H => match a with
  | [a0, a1, a2] => (okA α0 H a0 ∧ okA α1 H a1 ∧ okA α2 H a2) ∧ pre (de α0 H a0) (de α1 H a1) (de α2 H a2)
  | _ => False, fun a H => match a with
  | [a0, a1, a2] => F (de α0 H a0) (de α1 H a1) (de α2 H a2)
  | _ => .any, fun _ H => H⟩
@[simp] theorem C3_pre {α0 α1 α2 : Type} [Cel α0] [Cel α1] [Cel α2] (pre : α0 → α1 → α2 → Prop) (F : α0 → α1 → α2 → AV) (a0 a1 a2 : AV) (H : List AObj) : (C3 pre F).pre [a0, a1, a2] H = ((okA α0 H a0 ∧ okA α1 H a1 ∧ okA α2 H a2) ∧ pre (de α0 H a0) (de α1 H a1) (de α2 H a2)) := rfl
@[simp] theorem C3_val {α0 α1 α2 : Type} [Cel α0] [Cel α1] [Cel α2] (pre : α0 → α1 → α2 → Prop) (F : α0 → α1 → α2 → AV) (a0 a1 a2 : AV) (H : List AObj) : (C3 pre F).val [a0, a1, a2] H = F (de α0 H a0) (de α1 H a1) (de α2 H a2) := rfl
@[simp] theorem C3_hp {α0 α1 α2 : Type} [Cel α0] [Cel α1] [Cel α2] (pre : α0 → α1 → α2 → Prop) (F : α0 → α1 → α2 → AV) (a : List AV) (H : List AObj) : (C3 pre F).hp a H = H := rfl
def V3 {α0 α1 α2 : Type} [Cel α0] [Cel α1] [Cel α2] (pre : α0 → α1 → α2 → Prop) (F : α0 → α1 → α2 → AV) : Ctr := ⟨fun a H => match a with
  | [a0, a1, a2] => (okA α0 [] a0 ∧ okA α1 [] a1 ∧ okA α2 [] a2) ∧ pre (de α0 [] a0) (de α1 [] a1) (de α2 [] a2)
  | _ => False, fun a H => match a with
  | [a0, a1, a2] => F (de α0 [] a0) (de α1 [] a1) (de α2 [] a2)
  | _ => .any, fun _ H => H⟩
@[simp] theorem V3_pre {α0 α1 α2 : Type} [Cel α0] [Cel α1] [Cel α2] (pre : α0 → α1 → α2 → Prop) (F : α0 → α1 → α2 → AV) (a0 a1 a2 : AV) (H : List AObj) : (V3 pre F).pre [a0, a1, a2] H = ((okA α0 [] a0 ∧ okA α1 [] a1 ∧ okA α2 [] a2) ∧ pre (de α0 [] a0) (de α1 [] a1) (de α2 [] a2)) := rfl
@[simp] theorem V3_val {α0 α1 α2 : Type} [Cel α0] [Cel α1] [Cel α2] (pre : α0 → α1 → α2 → Prop) (F : α0 → α1 → α2 → AV) (a0 a1 a2 : AV) (H : List AObj) : (V3 pre F).val [a0, a1, a2] H = F (de α0 [] a0) (de α1 [] a1) (de α2 [] a2) := rfl
@[simp] theorem V3_hp {α0 α1 α2 : Type} [Cel α0] [Cel α1] [Cel α2] (pre : α0 → α1 → α2 → Prop) (F : α0 → α1 → α2 → AV) (a : List AV) (H : List AObj) : (V3 pre F).hp a H = H := rfl
theorem known_V3 {P : Program} {f : FuncId} {α0 α1 α2 : Type} [Cel α0] [Cel α1] [Cel α2] {pre : α0 → α1 → α2 → Prop} {F : α0 → α1 → α2 → AV} (h : ∀ x0 x1 x2, pre x0 x1 x2 → Det P f [en x0, en x1, en x2] [] (F x0 x1 x2) []) (hc : ∀ x0 x1 x2, pre x0 x1 x2 → Closed (F x0 x1 x2)) : Known P f (V3 pre F) := fun args H hp0 => by
  match args, hp0 with
  | [a0, a1, a2], hp0 =>
    obtain ⟨⟨h0, h1, h2⟩, hp⟩ := hp0
    exact Det.pureV (h _ _ _ hp) (each_cons (okA_seen h0) (each_cons (okA_seen h1) (each_cons (okA_seen h2) each_nil))) (hc _ _ _ hp) H
def C4 {α0 α1 α2 α3 : Type} [Cel α0] [Cel α1] [Cel α2] [Cel α3] (pre : α0 → α1 → α2 → α3 → Prop) (F : α0 → α1 → α2 → α3 → AV) : Ctr := ⟨fun a H => match a with
  | [a0, a1, a2, a3] => (okA α0 H a0 ∧ okA α1 H a1 ∧ okA α2 H a2 ∧ okA α3 H a3) ∧ pre (de α0 H a0) (de α1 H a1) (de α2 H a2) (de α3 H a3)
  | _ => False, fun a H => match a with
  | [a0, a1, a2, a3] => F (de α0 H a0) (de α1 H a1) (de α2 H a2) (de α3 H a3)
  | _ => .any, fun _ H => H⟩
@[simp] theorem C4_pre {α0 α1 α2 α3 : Type} [Cel α0] [Cel α1] [Cel α2] [Cel α3] (pre : α0 → α1 → α2 → α3 → Prop) (F : α0 → α1 → α2 → α3 → AV) (a0 a1 a2 a3 : AV) (H : List AObj) : (C4 pre F).pre [a0, a1, a2, a3] H = ((okA α0 H a0 ∧ okA α1 H a1 ∧ okA α2 H a2 ∧ okA α3 H a3) ∧ pre (de α0 H a0) (de α1 H a1) (de α2 H a2) (de α3 H a3)) := rfl
@[simp] theorem C4_val {α0 α1 α2 α3 : Type} [Cel α0] [Cel α1] [Cel α2] [Cel α3] (pre : α0 → α1 → α2 → α3 → Prop) (F : α0 → α1 → α2 → α3 → AV) (a0 a1 a2 a3 : AV) (H : List AObj) : (C4 pre F).val [a0, a1, a2, a3] H = F (de α0 H a0) (de α1 H a1) (de α2 H a2) (de α3 H a3) := rfl
@[simp] theorem C4_hp {α0 α1 α2 α3 : Type} [Cel α0] [Cel α1] [Cel α2] [Cel α3] (pre : α0 → α1 → α2 → α3 → Prop) (F : α0 → α1 → α2 → α3 → AV) (a : List AV) (H : List AObj) : (C4 pre F).hp a H = H := rfl
theorem known_C4 {P : Program} {f : FuncId} {α0 α1 α2 α3 : Type} [Cel α0] [Cel α1] [Cel α2] [Cel α3] {pre : α0 → α1 → α2 → α3 → Prop} {F : α0 → α1 → α2 → α3 → AV} (h : ∀ x0 x1 x2 x3, pre x0 x1 x2 x3 → Det P f [en x0, en x1, en x2, en x3] [] (F x0 x1 x2 x3) []) (hc : ∀ x0 x1 x2 x3, Flat (F x0 x1 x2 x3)) : Known P f (C4 pre F) := fun args H hp0 => by
  match args, hp0 with
  | [a0, a1, a2, a3], hp0 =>
    obtain ⟨⟨h0, h1, h2, h3⟩, hp⟩ := hp0
    exact Det.pureZ (h _ _ _ _ hp) (each_cons (okA_seen h0) (each_cons (okA_seen h1) (each_cons (okA_seen h2) (each_cons (okA_seen h3) each_nil)))) (hc _ _ _ _)
def V4 {α0 α1 α2 α3 : Type} [Cel α0] [Cel α1] [Cel α2] [Cel α3] (pre : α0 → α1 → α2 → α3 → Prop) (F : α0 → α1 → α2 → α3 → AV) : Ctr := ⟨fun a H => match a with
  | [a0, a1, a2, a3] => (okA α0 [] a0 ∧ okA α1 [] a1 ∧ okA α2 [] a2 ∧ okA α3 [] a3) ∧ pre (de α0 [] a0) (de α1 [] a1) (de α2 [] a2) (de α3 [] a3)
  | _ => False, fun a H => match a with
  | [a0, a1, a2, a3] => F (de α0 [] a0) (de α1 [] a1) (de α2 [] a2) (de α3 [] a3)
  | _ => .any, fun _ H => H⟩
@[simp] theorem V4_pre {α0 α1 α2 α3 : Type} [Cel α0] [Cel α1] [Cel α2] [Cel α3] (pre : α0 → α1 → α2 → α3 → Prop) (F : α0 → α1 → α2 → α3 → AV) (a0 a1 a2 a3 : AV) (H : List AObj) : (V4 pre F).pre [a0, a1, a2, a3] H = ((okA α0 [] a0 ∧ okA α1 [] a1 ∧ okA α2 [] a2 ∧ okA α3 [] a3) ∧ pre (de α0 [] a0) (de α1 [] a1) (de α2 [] a2) (de α3 [] a3)) := rfl
@[simp] theorem V4_val {α0 α1 α2 α3 : Type} [Cel α0] [Cel α1] [Cel α2] [Cel α3] (pre : α0 → α1 → α2 → α3 → Prop) (F : α0 → α1 → α2 → α3 → AV) (a0 a1 a2 a3 : AV) (H : List AObj) : (V4 pre F).val [a0, a1, a2, a3] H = F (de α0 [] a0) (de α1 [] a1) (de α2 [] a2) (de α3 [] a3) := rfl
@[simp] theorem V4_hp {α0 α1 α2 α3 : Type} [Cel α0] [Cel α1] [Cel α2] [Cel α3] (pre : α0 → α1 → α2 → α3 → Prop) (F : α0 → α1 → α2 → α3 → AV) (a : List AV) (H : List AObj) : (V4 pre F).hp a H = H := rfl
def C5 {α0 α1 α2 α3 α4 : Type} [Cel α0] [Cel α1] [Cel α2] [Cel α3] [Cel α4] (pre : α0 → α1 → α2 → α3 → α4 → Prop) (F : α0 → α1 → α2 → α3 → α4 → AV) : Ctr := ⟨fun a H => match a with
  | [a0, a1, a2, a3, a4] => (okA α0 H a0 ∧ okA α1 H a1 ∧ okA α2 H a2 ∧ okA α3 H a3 ∧ okA α4 H a4) ∧ pre (de α0 H a0) (de α1 H a1) (de α2 H a2) (de α3 H a3) (de α4 H a4)
  | _ => False, fun a H => match a with
  | [a0, a1, a2, a3, a4] => F (de α0 H a0) (de α1 H a1) (de α2 H a2) (de α3 H a3) (de α4 H a4)
  | _ => .any, fun _ H => H⟩
@[simp] theorem C5_pre {α0 α1 α2 α3 α4 : Type} [Cel α0] [Cel α1] [Cel α2] [Cel α3] [Cel α4] (pre : α0 → α1 → α2 → α3 → α4 → Prop) (F : α0 → α1 → α2 → α3 → α4 → AV) (a0 a1 a2 a3 a4 : AV) (H : List AObj) : (C5 pre F).pre [a0, a1, a2, a3, a4] H = ((okA α0 H a0 ∧ okA α1 H a1 ∧ okA α2 H a2 ∧ okA α3 H a3 ∧ okA α4 H a4) ∧ pre (de α0 H a0) (de α1 H a1) (de α2 H a2) (de α3 H a3) (de α4 H a4)) := rfl
@[simp] theorem C5_val {α0 α1 α2 α3 α4 : Type} [Cel α0] [Cel α1] [Cel α2] [Cel α3] [Cel α4] (pre : α0 → α1 → α2 → α3 → α4 → Prop) (F : α0 → α1 → α2 → α3 → α4 → AV) (a0 a1 a2 a3 a4 : AV) (H : List AObj) : (C5 pre F).val [a0, a1, a2, a3, a4] H = F (de α0 H a0) (de α1 H a1) (de α2 H a2) (de α3 H a3) (de α4 H a4) := rfl
@[simp] theorem C5_hp {α0 α1 α2 α3 α4 : Type} [Cel α0] [Cel α1] [Cel α2] [Cel α3] [Cel α4] (pre : α0 → α1 → α2 → α3 → α4 → Prop) (F : α0 → α1 → α2 → α3 → α4 → AV) (a : List AV) (H : List AObj) : (C5 pre F).hp a H = H := rfl
def V5 {α0 α1 α2 α3 α4 : Type} [Cel α0] [Cel α1] [Cel α2] [Cel α3] [Cel α4] (pre : α0 → α1 → α2 → α3 → α4 → Prop) (F : α0 → α1 → α2 → α3 → α4 → AV) : Ctr := ⟨fun a H => match a with
  | [a0, a1, a2, a3, a4] => (okA α0 [] a0 ∧ okA α1 [] a1 ∧ okA α2 [] a2 ∧ okA α3 [] a3 ∧ okA α4 [] a4) ∧ pre (de α0 [] a0) (de α1 [] a1) (de α2 [] a2) (de α3 [] a3) (de α4 [] a4)
  | _ => False, fun a H => match a with
  | [a0, a1, a2, a3, a4] => F (de α0 [] a0) (de α1 [] a1) (de α2 [] a2) (de α3 [] a3) (de α4 [] a4)
  | _ => .any, fun _ H => H⟩
@[simp] theorem V5_pre {α0 α1 α2 α3 α4 : Type} [Cel α0] [Cel α1] [Cel α2] [Cel α3] [Cel α4] (pre : α0 → α1 → α2 → α3 → α4 → Prop) (F : α0 → α1 → α2 → α3 → α4 → AV) (a0 a1 a2 a3 a4 : AV) (H : List AObj) : (V5 pre F).pre [a0, a1, a2, a3, a4] H = ((okA α0 [] a0 ∧ okA α1 [] a1 ∧ okA α2 [] a2 ∧ okA α3 [] a3 ∧ okA α4 [] a4) ∧ pre (de α0 [] a0) (de α1 [] a1) (de α2 [] a2) (de α3 [] a3) (de α4 [] a4)) := rfl
@[simp] theorem V5_val {α0 α1 α2 α3 α4 : Type} [Cel α0] [Cel α1] [Cel α2] [Cel α3] [Cel α4] (pre : α0 → α1 → α2 → α3 → α4 → Prop) (F : α0 → α1 → α2 → α3 → α4 → AV) (a0 a1 a2 a3 a4 : AV) (H : List AObj) : (V5 pre F).val [a0, a1, a2, a3, a4] H = F (de α0 [] a0) (de α1 [] a1) (de α2 [] a2) (de α3 [] a3) (de α4 [] a4) := rfl
@[simp] theorem V5_hp {α0 α1 α2 α3 α4 : Type} [Cel α0] [Cel α1] [Cel α2] [Cel α3] [Cel α4] (pre : α0 → α1 → α2 → α3 → α4 → Prop) (F : α0 → α1 → α2 → α3 → α4 → AV) (a : List AV) (H : List AObj) : (V5 pre F).hp a H = H := rfl
def C6 {α0 α1 α2 α3 α4 α5 : Type} [Cel α0] [Cel α1] [Cel α2] [Cel α3] [Cel α4] [Cel α5] (pre : α0 → α1 → α2 → α3 → α4 → α5 → Prop) (F : α0 → α1 → α2 → α3 → α4 → α5 → AV) : Ctr := ⟨fun a H => match a with
  | [a0, a1, a2, a3, a4, a5] => (okA α0 H a0 ∧ okA α1 H a1 ∧ okA α2 H a2 ∧ okA α3 H a3 ∧ okA α4 H a4 ∧ okA α5 H a5) ∧ pre (de α0 H a0) (de α1 H a1) (de α2 H a2) (de α3 H a3) (de α4 H a4) (de α5 H a5)
  | _ => False, fun a H => match a with
  | [a0, a1, a2, a3, a4, a5] => F (de α0 H a0) (de α1 H a1) (de α2 H a2) (de α3 H a3) (de α4 H a4) (de α5 H a5)
  | _ => .any, fun _ H => H⟩
@[simp] theorem C6_pre {α0 α1 α2 α3 α4 α5 : Type} [Cel α0] [Cel α1] [Cel α2] [Cel α3] [Cel α4] [Cel α5] (pre : α0 → α1 → α2 → α3 → α4 → α5 → Prop) (F : α0 → α1 → α2 → α3 → α4 → α5 → AV) (a0 a1 a2 a3 a4 a5 : AV) (H : List AObj) : (C6 pre F).pre [a0, a1, a2, a3, a4, a5] H = ((okA α0 H a0 ∧ okA α1 H a1 ∧ okA α2 H a2 ∧ okA α3 H a3 ∧ okA α4 H a4 ∧ okA α5 H a5) ∧ pre (de α0 H a0) (de α1 H a1) (de α2 H a2) (de α3 H a3) (de α4 H a4) (de α5 H a5)) := rfl
@[simp] theorem C6_val {α0 α1 α2 α3 α4 α5 : Type} [Cel α0] [Cel α1] [Cel α2] [Cel α3] [Cel α4] [Cel α5] (pre : α0 → α1 → α2 → α3 → α4 → α5 → Prop) (F : α0 → α1 → α2 → α3 → α4 → α5 → AV) (a0 a1 a2 a3 a4 a5 : AV) (H : List AObj) : (C6 pre F).val [a0, a1, a2, a3, a4, a5] H = F (de α0 H a0) (de α1 H a1) (de α2 H a2) (de α3 H a3) (de α4 H a4) (de α5 H a5) := rfl
@[simp] theorem C6_hp {α0 α1 α2 α3 α4 α5 : Type} [Cel α0] [Cel α1] [Cel α2] [Cel α3] [Cel α4] [Cel α5] (pre : α0 → α1 → α2 → α3 → α4 → α5 → Prop) (F : α0 → α1 → α2 → α3 → α4 → α5 → AV) (a : List AV) (H : List AObj) : (C6 pre F).hp a H = H := rfl
def V6 {α0 α1 α2 α3 α4 α5 : Type} [Cel α0] [Cel α1] [Cel α2] [Cel α3] [Cel α4] [Cel α5] (pre : α0 → α1 → α2 → α3 → α4 → α5 → Prop) (F : α0 → α1 → α2 → α3 → α4 → α5 → AV) : Ctr := ⟨fun a H => match a with
  | [a0, a1, a2, a3, a4, a5] => (okA α0 [] a0 ∧ okA α1 [] a1 ∧ okA α2 [] a2 ∧ okA α3 [] a3 ∧ okA α4 [] a4 ∧ okA α5 [] a5) ∧ pre (de α0 [] a0) (de α1 [] a1) (de α2 [] a2) (de α3 [] a3) (de α4 [] a4) (de α5 [] a5)
  | _ => False, fun a H => match a with
  | [a0, a1, a2, a3, a4, a5] => F (de α0 [] a0) (de α1 [] a1) (de α2 [] a2) (de α3 [] a3) (de α4 [] a4) (de α5 [] a5)
  | _ => .any, fun _ H => H⟩
@[simp] theorem V6_pre {α0 α1 α2 α3 α4 α5 : Type} [Cel α0] [Cel α1] [Cel α2] [Cel α3] [Cel α4] [Cel α5] (pre : α0 → α1 → α2 → α3 → α4 → α5 → Prop) (F : α0 → α1 → α2 → α3 → α4 → α5 → AV) (a0 a1 a2 a3 a4 a5 : AV) (H : List AObj) : (V6 pre F).pre [a0, a1, a2, a3, a4, a5] H = ((okA α0 [] a0 ∧ okA α1 [] a1 ∧ okA α2 [] a2 ∧ okA α3 [] a3 ∧ okA α4 [] a4 ∧ okA α5 [] a5) ∧ pre (de α0 [] a0) (de α1 [] a1) (de α2 [] a2) (de α3 [] a3) (de α4 [] a4) (de α5 [] a5)) := rfl
@[simp] theorem V6_val {α0 α1 α2 α3 α4 α5 : Type} [Cel α0] [Cel α1] [Cel α2] [Cel α3] [Cel α4] [Cel α5] (pre : α0 → α1 → α2 → α3 → α4 → α5 → Prop) (F : α0 → α1 → α2 → α3 → α4 → α5 → AV) (a0 a1 a2 a3 a4 a5 : AV) (H : List AObj) : (V6 pre F).val [a0, a1, a2, a3, a4, a5] H = F (de α0 [] a0) (de α1 [] a1) (de α2 [] a2) (de α3 [] a3) (de α4 [] a4) (de α5 [] a5) := rfl
@[simp] theorem V6_hp {α0 α1 α2 α3 α4 α5 : Type} [Cel α0] [Cel α1] [Cel α2] [Cel α3] [Cel α4] [Cel α5] (pre : α0 → α1 → α2 → α3 → α4 → α5 → Prop) (F : α0 → α1 → α2 → α3 → α4 → α5 → AV) (a : List AV) (H : List AObj) : (V6 pre F).hp a H = H := rfl
def C7 {α0 α1 α2 α3 α4 α5 α6 : Type} [Cel α0] [Cel α1] [Cel α2] [Cel α3] [Cel α4] [Cel α5] [Cel α6] (pre : α0 → α1 → α2 → α3 → α4 → α5 → α6 → Prop) (F : α0 → α1 → α2 → α3 → α4 → α5 → α6 → AV) : Ctr := ⟨fun a H => match a with
  | [a0, a1, a2, a3, a4, a5, a6] => (okA α0 H a0 ∧ okA α1 H a1 ∧ okA α2 H a2 ∧ okA α3 H a3 ∧ okA α4 H a4 ∧ okA α5 H a5 ∧ okA α6 H a6) ∧ pre (de α0 H a0) (de α1 H a1) (de α2 H a2) (de α3 H a3) (de α4 H a4) (de α5 H a5) (de α6 H a6)
  | _ => False, fun a H => match a with
  | [a0, a1, a2, a3, a4, a5, a6] => F (de α0 H a0) (de α1 H a1) (de α2 H a2) (de α3 H a3) (de α4 H a4) (de α5 H a5) (de α6 H a6)
  | _ => .any, fun _ H => H⟩
@[simp] theorem C7_pre {α0 α1 α2 α3 α4 α5 α6 : Type} [Cel α0] [Cel α1] [Cel α2] [Cel α3] [Cel α4] [Cel α5] [Cel α6] (pre : α0 → α1 → α2 → α3 → α4 → α5 → α6 → Prop) (F : α0 → α1 → α2 → α3 → α4 → α5 → α6 → AV) (a0 a1 a2 a3 a4 a5 a6 : AV) (H : List AObj) : (C7 pre F).pre [a0, a1, a2, a3, a4, a5, a6] H = ((okA α0 H a0 ∧ okA α1 H a1 ∧ okA α2 H a2 ∧ okA α3 H a3 ∧ okA α4 H a4 ∧ okA α5 H a5 ∧ okA α6 H a6) ∧ pre (de α0 H a0) (de α1 H a1) (de α2 H a2) (de α3 H a3) (de α4 H a4) (de α5 H a5) (de α6 H a6)) := rfl
@[simp] theorem C7_val {α0 α1 α2 α3 α4 α5 α6 : Type} [Cel α0] [Cel α1] [Cel α2] [Cel α3] [Cel α4] [Cel α5] [Cel α6] (pre : α0 → α1 → α2 → α3 → α4 → α5 → α6 → Prop) (F : α0 → α1 → α2 → α3 → α4 → α5 → α6 → AV) (a0 a1 a2 a3 a4 a5 a6 : AV) (H : List AObj) : (C7 pre F).val [a0, a1, a2, a3, a4, a5, a6] H = F (de α0 H a0) (de α1 H a1) (de α2 H a2) (de α3 H a3) (de α4 H a4) (de α5 H a5) (de α6 H a6) := rfl
@[simp] theorem C7_hp {α0 α1 α2 α3 α4 α5 α6 : Type} [Cel α0] [Cel α1] [Cel α2] [Cel α3] [Cel α4] [Cel α5] [Cel α6] (pre : α0 → α1 → α2 → α3 → α4 → α5 → α6 → Prop) (F : α0 → α1 → α2 → α3 → α4 → α5 → α6 → AV) (a : List AV) (H : List AObj) : (C7 pre F).hp a H = H := rfl
def V7 {α0 α1 α2 α3 α4 α5 α6 : Type} [Cel α0] [Cel α1] [Cel α2] [Cel α3] [Cel α4] [Cel α5] [Cel α6] (pre : α0 → α1 → α2 → α3 → α4 → α5 → α6 → Prop) (F : α0 → α1 → α2 → α3 → α4 → α5 → α6 → AV) : Ctr := ⟨fun a H => match a with
  | [a0, a1, a2, a3, a4, a5, a6] => (okA α0 [] a0 ∧ okA α1 [] a1 ∧ okA α2 [] a2 ∧ okA α3 [] a3 ∧ okA α4 [] a4 ∧ okA α5 [] a5 ∧ okA α6 [] a6) ∧ pre (de α0 [] a0) (de α1 [] a1) (de α2 [] a2) (de α3 [] a3) (de α4 [] a4) (de α5 [] a5) (de α6 [] a6)
  | _ => False, fun a H => match a with
  | [a0, a1, a2, a3, a4, a5, a6] => F (de α0 [] a0) (de α1 [] a1) (de α2 [] a2) (de α3 [] a3) (de α4 [] a4) (de α5 [] a5) (de α6 [] a6)
  | _ => .any, fun _ H => H⟩
@[simp] theorem V7_pre {α0 α1 α2 α3 α4 α5 α6 : Type} [Cel α0] [Cel α1] [Cel α2] [Cel α3] [Cel α4] [Cel α5] [Cel α6] (pre : α0 → α1 → α2 → α3 → α4 → α5 → α6 → Prop) (F : α0 → α1 → α2 → α3 → α4 → α5 → α6 → AV) (a0 a1 a2 a3 a4 a5 a6 : AV) (H : List AObj) : (V7 pre F).pre [a0, a1, a2, a3, a4, a5, a6] H = ((okA α0 [] a0 ∧ okA α1 [] a1 ∧ okA α2 [] a2 ∧ okA α3 [] a3 ∧ okA α4 [] a4 ∧ okA α5 [] a5 ∧ okA α6 [] a6) ∧ pre (de α0 [] a0) (de α1 [] a1) (de α2 [] a2) (de α3 [] a3) (de α4 [] a4) (de α5 [] a5) (de α6 [] a6)) := rfl
@[simp] theorem V7_val {α0 α1 α2 α3 α4 α5 α6 : Type} [Cel α0] [Cel α1] [Cel α2] [Cel α3] [Cel α4] [Cel α5] [Cel α6] (pre : α0 → α1 → α2 → α3 → α4 → α5 → α6 → Prop) (F : α0 → α1 → α2 → α3 → α4 → α5 → α6 → AV) (a0 a1 a2 a3 a4 a5 a6 : AV) (H : List AObj) : (V7 pre F).val [a0, a1, a2, a3, a4, a5, a6] H = F (de α0 [] a0) (de α1 [] a1) (de α2 [] a2) (de α3 [] a3) (de α4 [] a4) (de α5 [] a5) (de α6 [] a6) := rfl
@[simp] theorem V7_hp {α0 α1 α2 α3 α4 α5 α6 : Type} [Cel α0] [Cel α1] [Cel α2] [Cel α3] [Cel α4] [Cel α5] [Cel α6] (pre : α0 → α1 → α2 → α3 → α4 → α5 → α6 → Prop) (F : α0 → α1 → α2 → α3 → α4 → α5 → α6 → AV) (a : List AV) (H : List AObj) : (V7 pre F).hp a H = H := rfl
end Go.Proofs.Ytnjpfoblmomnlaa.Sx
