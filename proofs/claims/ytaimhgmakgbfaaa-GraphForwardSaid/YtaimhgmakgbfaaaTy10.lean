/- Closures over boxed variables as values of types. No conditions: a kit of our own. -/
import Derived.Test.YtaimhgmakgbfaaaTy9
namespace Go.Proofs.Ytaimhgmakgbfaaa.Sx
open Go Go.RowKit
set_option linter.unusedVariables false
set_option linter.unusedSimpArgs false

/-- What a pointer to a box points to. -/
def bxV (H : List AObj) : AV → List AV
  | .vp row o => row
  | .ptr id r o => nth (rowsOf H id) 0 []
  | _ => []
def bxP (H : List AObj) : AV → Prop
  | .vp row o => o = 0
  | .ptr id r o => (r = 0 ∧ o = 0) ∧ isRows H id ∧ 0 < (rowsOf H id).length
  | _ => False
@[simp] theorem bxV_vp (H : List AObj) (row : List AV) (o : Nat) : bxV H (.vp row o) = row := rfl
@[simp] theorem bxV_ptr (H : List AObj) (id r o : Nat) : bxV H (.ptr id r o) = nth (rowsOf H id) 0 [] := rfl
@[simp] theorem bxP_vp (H : List AObj) (row : List AV) (o : Nat) : bxP H (.vp row o) = (o = 0) := rfl
@[simp] theorem bxP_ptr (H : List AObj) (id r o : Nat) : bxP H (.ptr id r o) = ((r = 0 ∧ o = 0) ∧ isRows H id ∧ 0 < (rowsOf H id).length) := rfl
theorem bx_seen {α : Type} [Cel α] {H : List AObj} {p : AV} (hp : bxP H p) (hr : Cel.ok (α := α) H (bxV H p)) : Seen H (fun _ _ => False) p (.vp (Cel.c (Cel.u (α := α) H (bxV H p))) 0) := by
  have hs := Cel.seen H _ hr
  match p, hp with
  | .vp row o, hp =>
    have hp : o = 0 := hp
    subst hp
    exact .vp hs.1 hs.2
  | .ptr id r o, hp =>
    obtain ⟨⟨rfl, rfl⟩, h1, h2⟩ := hp
    obtain ⟨sz, rs, e, e1, e2⟩ := isRows_some h1
    simp only [bxV_ptr] at hs ⊢
    rw [e1] at hs h2 ⊢
    rw [nth_get h2] at hs ⊢
    exact .fzp e (fun _ h => h) (List.getElem?_eq_getElem h2) hs.1 hs.2
/-- A pointer to a box. -/
structure Bx (α : Type) where
  v : α
instance {α : Type} [Cel α] : Cel (Bx α) where
  n := 1
  agg := false
  c x := [.vp (Cel.c x.v) 0]
  u H cs := ⟨Cel.u H (bxV H (nth cs 0 .any))⟩
  ok H cs := ∃ p, cs = [p] ∧ bxP H p ∧ Cel.ok (α := α) H (bxV H p)
  len x := rfl
  plain x a h := by simp at h; subst h; rfl
  closed x a h := by
    simp at h; subst h
    exact .vp rfl fun i a b h1 h2 => by rw [h1] at h2; cases h2; exact Cel.closed x.v a (List.mem_of_getElem? h1)
  nn x := by simp
  one _ := rfl
  u_c H x := by simp
  ok_c H x := ⟨_, rfl, by simp, by simp⟩
  seen H cs h := by
    obtain ⟨p, rfl, h1, h2⟩ := h
    exact each_cons (bx_seen h1 h2) each_nil
section
variable {α : Type} [Cel α]
@[simp] theorem c_bx (x : Bx α) : Cel.c x = [.vp (Cel.c x.v) 0] := rfl
@[simp] theorem en_bx (x : Bx α) : en x = .vp (Cel.c x.v) 0 := rfl
@[simp] theorem agg_bx : Cel.agg (Bx α) = false := rfl
@[simp] theorem isAgg_vp (row : List AV) (o : Nat) : isAgg (.vp row o) = false := rfl
@[simp] theorem isAgg_ptr (i r o : Nat) : isAgg (.ptr i r o) = false := rfl
@[simp] theorem u_bx (H : List AObj) (p : AV) : Cel.u (α := Bx α) H [p] = ⟨Cel.u H (bxV H p)⟩ := rfl
@[simp] theorem ok_bx (H : List AObj) (p : AV) : Cel.ok (α := Bx α) H [p] = (bxP H p ∧ Cel.ok (α := α) H (bxV H p)) := by
  show (∃ q, [p] = [q] ∧ bxP H q ∧ Cel.ok (α := α) H (bxV H q)) = _
  apply propext
  constructor
  · rintro ⟨q, h1, h2, h3⟩
    simp at h1; subst h1
    exact ⟨h2, h3⟩
  · rintro ⟨h2, h3⟩
    exact ⟨p, rfl, h2, h3⟩
end
structure Clo1 (f : FuncId) (α : Type) where
  v : α
def fnFree : List AV → List AV
  | [.fn _ _ fs] => fs
  | _ => []
@[simp] theorem fnFree_fn (f : FuncId) (cs fs : List AV) : fnFree [.fn f cs fs] = fs := rfl
instance {f : FuncId} {α : Type} [Cel α] : Cel (Clo1 f α) where
  n := 1
  agg := false
  c x := [.fn f [] [.vp (Cel.c x.v) 0]]
  u H cs := ⟨Cel.u H (bxV H (nth (fnFree cs) 0 .any))⟩
  ok H cs := ∃ p, cs = [.fn f [] [p]] ∧ bxP H p ∧ Cel.ok (α := α) H (bxV H p)
  len x := rfl
  plain x a h := by simp at h; subst h; rfl
  closed x a h := by
    simp at h; subst h
    refine .fn rfl rfl (fun i a b h => by simp at h) fun i a b h1 h2 => ?_
    match i with
    | 0 =>
      simp at h1 h2; subst h1; subst h2
      exact .vp rfl fun i a b h1 h2 => by rw [h1] at h2; cases h2; exact Cel.closed x.v a (List.mem_of_getElem? h1)
    | i + 1 => simp at h1
  nn x := by simp
  one _ := rfl
  u_c H x := by simp
  ok_c H x := ⟨_, rfl, by simp, by simp⟩
  seen H cs h := by
    obtain ⟨p, rfl, h1, h2⟩ := h
    refine each_cons (.fn rfl rfl (fun i a b h => by simp at h) fun i a b h1' h2' => ?_) each_nil
    match i with
    | 0 =>
      simp at h1' h2'; subst h1'; subst h2'
      exact bx_seen h1 h2
    | i + 1 => simp at h1'
section
variable {f g : FuncId} {α : Type} [Cel α]
@[simp] theorem c_clo1 (x : Clo1 f α) : Cel.c x = [.fn f [] [.vp (Cel.c x.v) 0]] := rfl
@[simp] theorem en_clo1 (x : Clo1 f α) : en x = .fn f [] [.vp (Cel.c x.v) 0] := rfl
@[simp] theorem agg_clo1 : Cel.agg (Clo1 f α) = false := rfl
@[simp] theorem u_clo1 (H : List AObj) (cs : List AV) (p : AV) : Cel.u (α := Clo1 f α) H [.fn g cs [p]] = ⟨Cel.u H (bxV H p)⟩ := rfl
@[simp] theorem ok_clo1 (H : List AObj) (cs : List AV) (p : AV) : Cel.ok (α := Clo1 f α) H [.fn g cs [p]] = ((g = f ∧ cs = []) ∧ bxP H p ∧ Cel.ok (α := α) H (bxV H p)) := by
  show (∃ q, [AV.fn g cs [p]] = [.fn f [] [q]] ∧ bxP H q ∧ Cel.ok (α := α) H (bxV H q)) = _
  apply propext
  constructor
  · rintro ⟨q, h1, h2, h3⟩
    simp at h1
    obtain ⟨rfl, rfl, rfl⟩ := h1
    exact ⟨⟨rfl, rfl⟩, h2, h3⟩
  · rintro ⟨⟨rfl, rfl⟩, h2, h3⟩
    exact ⟨p, rfl, h2, h3⟩
end
structure Clo2 (f : FuncId) (α β : Type) where
  v : α
  w : β
instance {f : FuncId} {α β : Type} [Cel α] [Cel β] : Cel (Clo2 f α β) where
  n := 1
  agg := false
  c x := [.fn f [] [.vp (Cel.c x.v) 0, .vp (Cel.c x.w) 0]]
  u H cs := ⟨Cel.u H (bxV H (nth (fnFree cs) 0 .any)), Cel.u H (bxV H (nth (fnFree cs) 1 .any))⟩
  ok H cs := ∃ p q, cs = [.fn f [] [p, q]] ∧ (bxP H p ∧ Cel.ok (α := α) H (bxV H p)) ∧ bxP H q ∧ Cel.ok (α := β) H (bxV H q)
  len x := rfl
  plain x a h := by simp at h; subst h; rfl
  closed x a h := by
    simp at h; subst h
    refine .fn rfl rfl (fun i a b h => by simp at h) fun i a b h1 h2 => ?_
    match i with
    | 0 =>
      simp at h1 h2; subst h1; subst h2
      exact .vp rfl fun i a b h1 h2 => by rw [h1] at h2; cases h2; exact Cel.closed x.v a (List.mem_of_getElem? h1)
    | 1 =>
      simp at h1 h2; subst h1; subst h2
      exact .vp rfl fun i a b h1 h2 => by rw [h1] at h2; cases h2; exact Cel.closed x.w a (List.mem_of_getElem? h1)
    | i + 2 => simp at h1
  nn x := by simp
  one _ := rfl
  u_c H x := by simp
  ok_c H x := ⟨_, _, rfl, by simp, by simp⟩
  seen H cs h := by
    obtain ⟨p, q, rfl, ⟨h1, h2⟩, h3, h4⟩ := h
    refine each_cons (.fn rfl rfl (fun i a b h => by simp at h) fun i a b h1' h2' => ?_) each_nil
    match i with
    | 0 =>
      simp at h1' h2'; subst h1'; subst h2'
      exact bx_seen h1 h2
    | 1 =>
      simp at h1' h2'; subst h1'; subst h2'
      exact bx_seen h3 h4
    | i + 2 => simp at h1'
section
variable {f g : FuncId} {α β : Type} [Cel α] [Cel β]
@[simp] theorem c_clo2 (x : Clo2 f α β) : Cel.c x = [.fn f [] [.vp (Cel.c x.v) 0, .vp (Cel.c x.w) 0]] := rfl
@[simp] theorem en_clo2 (x : Clo2 f α β) : en x = .fn f [] [.vp (Cel.c x.v) 0, .vp (Cel.c x.w) 0] := rfl
@[simp] theorem agg_clo2 : Cel.agg (Clo2 f α β) = false := rfl
@[simp] theorem u_clo2 (H : List AObj) (cs : List AV) (p q : AV) : Cel.u (α := Clo2 f α β) H [.fn g cs [p, q]] = ⟨Cel.u H (bxV H p), Cel.u H (bxV H q)⟩ := rfl
@[simp] theorem ok_clo2 (H : List AObj) (cs : List AV) (p q : AV) : Cel.ok (α := Clo2 f α β) H [.fn g cs [p, q]] = ((g = f ∧ cs = []) ∧ (bxP H p ∧ Cel.ok (α := α) H (bxV H p)) ∧ bxP H q ∧ Cel.ok (α := β) H (bxV H q)) := by
  show (∃ a b, [AV.fn g cs [p, q]] = [.fn f [] [a, b]] ∧ (bxP H a ∧ Cel.ok (α := α) H (bxV H a)) ∧ bxP H b ∧ Cel.ok (α := β) H (bxV H b)) = _
  apply propext
  constructor
  · rintro ⟨a, b, h1, h2, h3⟩
    simp at h1
    obtain ⟨rfl, rfl, rfl, rfl⟩ := h1
    exact ⟨⟨rfl, rfl⟩, h2, h3⟩
  · rintro ⟨⟨rfl, rfl⟩, h2, h3⟩
    exact ⟨p, q, rfl, h2, h3⟩
end
end Go.Proofs.Ytaimhgmakgbfaaa.Sx
