/- Closures over three boxed variables; names of values told of in loops. No conditions: a kit of our own. -/
import Derived.Test.YtaimhgmakgbfaaaTy12
namespace Go.Proofs.Ytaimhgmakgbfaaa.Sx
open Go Go.RowKit
set_option linter.unusedVariables false
set_option linter.unusedSimpArgs false

structure Clo3 (f : FuncId) (α β γ : Type) where
  v : α
  w : β
  y : γ
instance {f : FuncId} {α β γ : Type} [Cel α] [Cel β] [Cel γ] : Cel (Clo3 f α β γ) where
  n := 1
  agg := false
  c x := [.fn f [] [.vp (Cel.c x.v) 0, .vp (Cel.c x.w) 0, .vp (Cel.c x.y) 0]]
  u H cs := ⟨Cel.u H (bxV H (nth (fnFree cs) 0 .any)), Cel.u H (bxV H (nth (fnFree cs) 1 .any)), Cel.u H (bxV H (nth (fnFree cs) 2 .any))⟩
  ok H cs := ∃ p q r, cs = [.fn f [] [p, q, r]] ∧ (bxP H p ∧ Cel.ok (α := α) H (bxV H p)) ∧ (bxP H q ∧ Cel.ok (α := β) H (bxV H q)) ∧ bxP H r ∧ Cel.ok (α := γ) H (bxV H r)
  len x := rfl
  plain x a h := by simp at h; subst h; rfl
  closed x a h := by
    simp at h; subst h
    refine .fn rfl rfl (fun i a b h => by simp at h) fun i a b h1 h2 => ?_
    match i with
    | 0 =>
      simp at h1 h2; subst h1; subst h2
      exact closed_vpc _
    | 1 =>
      simp at h1 h2; subst h1; subst h2
      exact closed_vpc _
    | 2 =>
      simp at h1 h2; subst h1; subst h2
      exact closed_vpc _
    | i + 3 => simp at h1
  nn x := by simp
  one _ := rfl
  u_c H x := by simp
  ok_c H x := ⟨_, _, _, rfl, by simp, by simp, by simp⟩
  seen H cs h := by
    obtain ⟨p, q, r, rfl, ⟨h1, h2⟩, ⟨h3, h4⟩, h5, h6⟩ := h
    refine each_cons (.fn rfl rfl (fun i a b h => by simp at h) fun i a b h1' h2' => ?_) each_nil
    match i with
    | 0 =>
      simp at h1' h2'; subst h1'; subst h2'
      exact bx_seen h1 h2
    | 1 =>
      simp at h1' h2'; subst h1'; subst h2'
      exact bx_seen h3 h4
    | 2 =>
      simp at h1' h2'; subst h1'; subst h2'
      exact bx_seen h5 h6
    | i + 3 => simp at h1'
section
variable {f g : FuncId} {α β γ : Type} [Cel α] [Cel β] [Cel γ]
@[simp] theorem c_clo3 (x : Clo3 f α β γ) : Cel.c x = [.fn f [] [.vp (Cel.c x.v) 0, .vp (Cel.c x.w) 0, .vp (Cel.c x.y) 0]] := rfl
@[simp] theorem en_clo3 (x : Clo3 f α β γ) : en x = .fn f [] [.vp (Cel.c x.v) 0, .vp (Cel.c x.w) 0, .vp (Cel.c x.y) 0] := rfl
@[simp] theorem agg_clo3 : Cel.agg (Clo3 f α β γ) = false := rfl
@[simp] theorem u_clo3 (H : List AObj) (cs : List AV) (p q r : AV) : Cel.u (α := Clo3 f α β γ) H [.fn g cs [p, q, r]] = ⟨Cel.u H (bxV H p), Cel.u H (bxV H q), Cel.u H (bxV H r)⟩ := rfl
@[simp] theorem ok_clo3 (H : List AObj) (cs : List AV) (p q r : AV) : Cel.ok (α := Clo3 f α β γ) H [.fn g cs [p, q, r]] = ((g = f ∧ cs = []) ∧ (bxP H p ∧ Cel.ok (α := α) H (bxV H p)) ∧ (bxP H q ∧ Cel.ok (α := β) H (bxV H q)) ∧ bxP H r ∧ Cel.ok (α := γ) H (bxV H r)) := by
  show (∃ a b c, [AV.fn g cs [p, q, r]] = [.fn f [] [a, b, c]] ∧ (bxP H a ∧ Cel.ok (α := α) H (bxV H a)) ∧ (bxP H b ∧ Cel.ok (α := β) H (bxV H b)) ∧ bxP H c ∧ Cel.ok (α := γ) H (bxV H c)) = _
  apply propext
  constructor
  · rintro ⟨a, b, c, h1, h2, h3, h4, h5⟩
    simp at h1
    obtain ⟨rfl, rfl, rfl, rfl, rfl⟩ := h1
    exact ⟨⟨rfl, rfl⟩, h2, h3, h4, h5⟩
  · rintro ⟨⟨rfl, rfl⟩, h2, h3, h4, h5⟩
    exact ⟨p, q, r, rfl, h2, h3, h4, h5⟩
end
theorem closed_tupl {l : List AV} (h : ∀ a ∈ l, Closed a) : Closed (.tup l) := .tup rfl fun i a b h1 h2 => by rw [h1] at h2; cases h2; exact h a (List.mem_of_getElem? h1)
theorem low_en {k : Nat} {α : Type} [Cel α] (x : α) : Low k (en x) := (closed_en x).seen _ _
theorem mem_drop {α : Type} {l : List α} {i : Nat} {a : α} {r : List α} (h : l.drop i = a :: r) : a ∈ l := List.mem_of_mem_drop (i := i) (by rw [h]; simp)
theorem lowS3 {α β : Type} [Cel α] [Cel β] (l : List α) (q : β) (a b c : Nat) (i : Int) : lowS ⟨[(a, .view (l.map Cel.c)), (b, en q), (c, .int .i64 i)], []⟩ :=
  ⟨lowTm_cons (low_viewc l) (lowTm_cons (low_en q) (lowTm_cons (low_int _ _) (lowTm_nil _))), fun o h => by simp at h⟩
end Go.Proofs.Ytaimhgmakgbfaaa.Sx
