/- Closures over boxed variables as values of types. No conditions: a kit of our own. -/
import Derived.Test.YtnjpfoblmomnlaaTy9
namespace Go.Proofs.Ytnjpfoblmomnlaa.Sx
open Go Go.RowKit
set_option linter.unusedVariables false
set_option linter.unusedSimpArgs false

/-- What a pointer to a box points to. -/
def bxV (H : List AObj) : AV → List AV
  | .vp row o => row
  | .ptr id r o => nth (rowsOf H id) 0 []
  | _ => []
def bxP (H : List AObj) : AV → Prop
  | .vp row o => o = 0
  | .ptr id r o => (r = 0 ∧ o = 0) ∧ isRows H id ∧ 0 < (rowsOf H id).length
  | _ => False
@[simp] theorem bxV_vp (H : List AObj) (row : List AV) (o : Nat) : bxV H (.vp row o) = row := rfl
@[simp] theorem bxV_ptr (H : List AObj) (id r o : Nat) : bxV H (.ptr id r o) = nth (rowsOf H id) 0 [] := rfl
@[simp] theorem bxP_vp (H : List AObj) (row : List AV) (o : Nat) : bxP H (.vp row o) = (o = 0) := rfl
@[simp] theorem bxP_ptr (H : List AObj) (id r o : Nat) : bxP H (.ptr id r o) = ((r = 0 ∧ o = 0) ∧ isRows H id ∧ 0 < (rowsOf H id).length) := rfl
theorem bx_seen {α : Type} [Cel α] {H : List AObj} {p : AV} (hp : bxP H p) (hr : Cel.ok (α := α) H (bxV H p)) : Seen H (fun _ _ => False) p (.vp (Cel.c (Cel.u (α := α) H (bxV H p))) 0) := by
  have hs := Cel.seen H _ hr
  match p, hp with
  | .vp row o, hp =>
    have hp : o = 0 := hp
    subst hp
    exact .vp hs.1 hs.2
  | .ptr id r o, hp =>
    obtain ⟨⟨rfl, rfl⟩, h1, h2⟩ := hp
    obtain ⟨sz, rs, e, e1, e2⟩ := isRows_some h1
    simp only [bxV_ptr] at hs ⊢
    rw [e1] at hs h2 ⊢
    rw [nth_get h2] at hs ⊢
    exact .fzp e (fun _ h => h) (List.getElem?_eq_getElem h2) hs.1 hs.2
/-- A pointer to a box. -/
structure Bx (α : Type) where
  v : α
instance {α : Type} [Cel α] : Cel (Bx α) where
  n := 1
  agg := false
  c x := [.vp (Cel.c x.v) 0]
  u H cs := ⟨Cel.u H (bxV H (nth cs 0 .any))⟩
  ok H cs := ∃ p, cs = [p] ∧ bxP H p ∧ Cel.ok (α := α) H (bxV H p)
  len x := rfl
  plain x a h := by simp at h; subst h; rfl
  closed x a h := by
    simp at h; subst h
    exact .vp rfl fun i a b h1 h2 => by rw [h1] at h2; cases h2; exact Cel.closed x.v a (List.mem_of_getElem? h1)
  nn x := by simp
  one _ := rfl
  u_c H x := by simp
  ok_c H x := ⟨_, rfl, by simp, by simp⟩
  seen H cs h := by
    obtain ⟨p, rfl, h1, h2⟩ := h
    exact each_cons (bx_seen h1 h2) each_nil
section
variable {α : Type} [Cel α]
@[simp] theorem c_bx (x : Bx α) : Cel.c x = [.vp (Cel.c x.v) 0] := rfl
@[simp] theorem en_bx (x : Bx α) : en x = .vp (Cel.c x.v) 0 := rfl
@[simp] theorem agg_bx : Cel.agg (Bx α) = false := rfl
@[simp] theorem isAgg_vp (row : List AV) (o : Nat) : isAgg (.vp row o) = false := rfl
@[simp] theorem isAgg_ptr (i r o : Nat) : isAgg (.ptr i r o) = false := rfl
@[simp] theorem u_bx (H : List AObj) (p : AV) : Cel.u (α := Bx α) H [p] = ⟨Cel.u H (bxV H p)⟩ := rfl
@[simp] theorem ok_bx (H : List AObj) (p : AV) : Cel.ok (α := Bx α) H [p] = (bxP H p ∧ Cel.ok (α := α) H (bxV H p)) := by
  show (∃ q, [p] = [q] ∧ bxP H q ∧ Cel.ok (α := α) H (bxV H q)) = _
  apply propext
  constructor
  · rintro ⟨q, h1, h2, h3⟩
    simp at h1; subst h1
    exact ⟨h2, h3⟩
  · rintro ⟨h2, h3⟩
    exact ⟨p, rfl, h2, h3⟩
end
structure Clo1 (f : FuncId) (α : Type) where
  v : α
def fnFree : List AV → List AV
  | [.fn _ _ fs] => fs
  | _ => []
@[simp] theorem fnFree_fn (f : FuncId) (cs fs : List AV) : fnFree [.fn f cs fs] = fs := rfl
instance {f : FuncId} {α : Type} [Cel α] : Cel (Clo1 f α) where
  n := 1
  agg := false
  c x := [.fn f [] [.vp (Cel.c x.v) 0]]
  u H cs := ⟨Cel.u H (bxV H (nth (fnFree cs) 0 .any))⟩
  ok H cs := ∃ p, cs = [.fn f [] [p]] ∧ bxP H p ∧ Cel.ok (α := α) H (bxV H p)
  len x := rfl
  plain x a h := by simp at h; subst h; rfl
  closed x a h := by
    simp at h; subst h
    refine .fn rfl rfl (fun i a b h => by simp at h) fun i a b h1 h2 => ?_
    match i with
    | 0 =>
      simp at h1 h2; subst h1; subst h2
      exact .vp rfl fun i a b h1 h2 => by rw [h1] at h2; cases h2; exact Cel.closed x.v a (List.mem_of_getElem? h1)
    | i + 1 => simp at h1
  nn x := by simp
  one _ := rfl
  u_c H x := by simp
  ok_c H x := ⟨_, rfl, by simp, by simp⟩
  seen H cs h := by
    obtain ⟨p, rfl, h1, h2⟩ := h
    refine each_cons (.fn rfl rfl (fun i a b h => by simp at h) fun i a b h1' h2' => ?_) each_nil
    match i with
    | 0 =>
      simp at h1' h2'; subst h1'; subst h2'
      exact bx_seen h1 h2
    | i + 1 => simp at h1'
section
variable {f g : FuncId} {α : Type} [Cel α]
@[simp] theorem c_clo1 (x : Clo1 f α) : Cel.c x = [.fn f [] [.vp (Cel.c x.v) 0]] := rfl
@[simp] theorem en_clo1 (x : Clo1 f α) : en x = .fn f [] [.vp (Cel.c x.v) 0] := rfl
@[simp] theorem agg_clo1 : Cel.agg (Clo1 f α) = false := rfl
@[simp] theorem u_clo1 (H : List AObj) (cs : List AV) (p : AV) : Cel.u (α := Clo1 f α) H [.fn g cs [p]] = ⟨Cel.u H (bxV H p)⟩ := rfl
@[simp] theorem ok_clo1 (H : List AObj) (cs : List AV) (p : AV) : Cel.ok (α := Clo1 f α) H [.fn g cs [p]] = ((g = f ∧ cs = []) ∧ bxP H p ∧ Cel.ok (α := α) H (bxV H p)) := by
  show (∃ q, [AV.fn g cs [p]] = [.fn f [] [q]] ∧ bxP H q ∧ Cel.ok (α := α) H (bxV H q)) = _
  apply propext
  constructor
  · rintro ⟨q, h1, h2, h3⟩
    simp at h1
    obtain ⟨rfl, rfl, rfl⟩ := h1
    exact ⟨⟨rfl, rfl⟩, h2, h3⟩
  · rintro ⟨⟨rfl, rfl⟩, h2, h3⟩
    exact ⟨p, rfl, h2, h3⟩
end
structure Clo2 (f : FuncId) (α β : Type) where
  v : α
  w : β
instance {f : FuncId} {α β : Type} [Cel α] [Cel β] : Cel (Clo2 f α β) where
  n := 1
  agg := false
  c x := [.fn f [] [.vp (Cel.c x.v) 0, .vp (Cel.c x.w) 0]]
  u H cs := ⟨Cel.u H (bxV H (nth (fnFree cs) 0 .any)), Cel.u H (bxV H (nth (fnFree cs) 1 .any))⟩
  ok H cs := ∃ p q, cs = [.fn f [] [p, q]] ∧ (bxP H p ∧ Cel.ok (α := α) H (bxV H p)) ∧ bxP H q ∧ Cel.ok (α := β) H (bxV H q)
  len x := rfl
  plain x a h := by simp at h; subst h; rfl
  closed x a h := by
    simp at h; subst h
    refine .fn rfl rfl (fun i a b h => by simp at h) fun i a b h1 h2 => ?_
    match i with
    | 0 =>
      simp at h1 h2; subst h1; subst h2
      exact .vp rfl fun i a b h1 h2 => by rw [h1] at h2; cases h2; exact Cel.closed x.v a (List.mem_of_getElem? h1)
    | 1 =>
      simp at h1 h2; subst h1; subst h2
      exact .vp rfl fun i a b h1 h2 => by rw [h1] at h2; cases h2; exact Cel.closed x.w a (List.mem_of_getElem? h1)
    | i + 2 => simp at h1
  nn x := by simp
  one _ := rfl
  u_c H x := by simp
  ok_c H x := ⟨_, _, rfl, by simp, by simp⟩
  seen H cs h := by
    obtain ⟨p, q, rfl, ⟨h1, h2⟩, h3, h4⟩ := h
    refine each_cons (.fn rfl rfl (fun i a b h => by simp at h) fun i a b h1' h2' => ?_) each_nil
    match i with
    | 0 =>
      simp at h1' h2'; subst h1'; subst h2'
      exact bx_seen h1 h2
    | 1 =>
      simp at h1' h2'; subst h1'; subst h2'
      exact bx_seen h3 h4
    | i + 2 => simp at h1'
section
variable {f g : FuncId} {α β : Type} [Cel α] [Cel β]
@[simp] theorem c_clo2 (x : Clo2 f α β) : Cel.c x = [.fn f [] [.vp (Cel.c x.v) 0, .vp (Cel.c x.w) 0]] := rfl
@[simp] theorem en_clo2 (x : Clo2 f α β) : en x = .fn f [] [.vp (Cel.c x.v) 0, .vp (Cel.c x.w) 0] := rfl
@[simp] theorem agg_clo2 : Cel.agg (Clo2 f α β) = false := rfl
@[simp] theorem u_clo2 (H : List AObj) (cs : List AV) (p q : AV) : Cel.u (α := Clo2 f α β) H [.fn g cs [p, q]] = ⟨Cel.u H (bxV H p), Cel.u H (bxV H q)⟩ := rfl
@[simp] theorem ok_clo2 (H : List AObj) (cs : List AV) (p q : AV) : Cel.ok (α := Clo2 f α β) H [.fn g cs [p, q]] = ((g = f ∧ cs = []) ∧ (bxP H p ∧ Cel.ok (α := α) H (bxV H p)) ∧ bxP H q ∧ Cel.ok (α := β) H (bxV H q)) := by
  show (∃ a b, [AV.fn g cs [p, q]] = [.fn f [] [a, b]] ∧ (bxP H a ∧ Cel.ok (α := α) H (bxV H a)) ∧ bxP H b ∧ Cel.ok (α := β) H (bxV H b)) = _
  apply propext
  constructor
  · rintro ⟨a, b, h1, h2, h3⟩
    simp at h1
    obtain ⟨rfl, rfl, rfl, rfl⟩ := h1
    exact ⟨⟨rfl, rfl⟩, h2, h3⟩
  · rintro ⟨⟨rfl, rfl⟩, h2, h3⟩
    exact ⟨p, q, rfl, h2, h3⟩
end
end Go.Proofs.Ytnjpfoblmomnlaa.Sx
/- A function that is handed some of one's own memory for good ('N'): just what its arguments name is gone. No conditions: a kit of our own. -/
namespace Go.Proofs.Ytnjpfoblmomnlaa.Sx
open Go Go.RowKit
set_option linter.unusedVariables false
set_option linter.unusedSimpArgs false

/-- All names in it are in K. -/
def Only (K : List Nat) (a : AV) : Prop := Seen [] (fun i j => i = j ∧ i ∈ K) a a
/-- The names that stay. -/
def stay (n : Nat) (K : List Nat) (i j : Nat) : Prop := i = j ∧ i ∉ K ∧ i < n
theorem Closed.only {K : List Nat} {a : AV} (h : Closed a) : Only K a := h.mono (fun _ _ h => h.elim) (.inl rfl)
theorem seen_stay {n : Nat} {K : List Nat} {H : List AObj} {a b : AV} (h : Seen H (fun _ _ => False) a b) (hK : ∀ i ∈ K, ∀ sz rs, H[i]? = some (.rows sz rs) → ∀ row ∈ rs, ∀ c ∈ row, Closed c) : Only K a → Seen H (stay n K) a b := by
  induction h with
  | any a => exact fun _ => .any a
  | bool b => exact fun _ => .bool b
  | int k n => exact fun _ => .int k n
  | str s => exact fun _ => .str s
  | val v => exact fun _ => .val v
  | nilp => exact fun _ => .nilp
  | nils => exact fun _ => .nils
  | nilv => exact fun _ => .nilv
  | nilm => exact fun _ => .nilm
  | ptr h => exact h.elim
  | sl h => exact h.elim
  | map h => exact h.elim
  | vp hl h ih =>
    intro ha
    refine .vp hl fun i a b h1 h2 => ih i a b h1 h2 ?_
    cases ha with
    | vp _ hh => exact hh i a a h1 h1
  | view hl hr h ih =>
    intro ha
    refine .view hl hr fun i r r' j a b h1 h2 h3 h4 => ih i r r' j a b h1 h2 h3 h4 ?_
    cases ha with
    | view _ _ hh => exact hh i r r j a a h1 h1 h3 h3
  | @fz i sz r l rs es' ho hn hb hl hr h ih =>
    intro ha
    have hi : i ∈ K := by
      cases ha with
      | sl h => exact h.2
    exact .fz ho (fun j hj => hj.2.1 hi) hb hl hr fun k x x' j a b h1 h2 h3 h4 => ih k x x' j a b h1 h2 h3 h4 (Closed.only (hK i hi sz rs ho x (List.mem_of_getElem? h1) a (List.mem_of_getElem? h3)))
  | @fzp i sz r o rs row row' ho hn hr hl h ih =>
    intro ha
    have hi : i ∈ K := by
      cases ha with
      | ptr h => exact h.2
    exact .fzp ho (fun j hj => hj.2.1 hi) hr hl fun k a b h1 h2 => ih k a b h1 h2 (Closed.only (hK i hi sz rs ho row (List.mem_of_getElem? hr) a (List.mem_of_getElem? h1)))
  | cv h ih =>
    intro ha
    cases ha with
    | cv hh => exact .cv (ih hh)
  | cvv h ih =>
    intro ha
    cases ha with
    | cv hh => exact .cvv (ih hh)
  | fn hl hm h h' ih ih' =>
    intro ha
    cases ha with
    | fn _ _ hh hh' => exact .fn hl hm (fun i a b h1 h2 => ih i a b h1 h2 (hh i a a h1 h1)) fun i a b h1 h2 => ih' i a b h1 h2 (hh' i a a h1 h1)
  | agg hl h ih =>
    intro ha
    cases ha with
    | agg _ hh => exact .agg hl fun i a b h1 h2 => ih i a b h1 h2 (hh i a a h1 h1)
  | tup hl h ih =>
    intro ha
    cases ha with
    | tup _ hh => exact .tup hl fun i a b h1 h2 => ih i a b h1 h2 (hh i a a h1 h1)
  | opt h ih =>
    intro ha
    cases ha with
    | opt hh => exact .opt (ih hh)
def strike (K : List Nat) (H : List AObj) : List AObj := K.foldl (fun H i => H.set i .dead) H
@[simp] theorem strike_nil (H : List AObj) : strike [] H = H := rfl
@[simp] theorem strike_cons (i : Nat) (K : List Nat) (H : List AObj) : strike (i :: K) H = strike K (H.set i .dead) := rfl
@[simp] theorem strike_len (K : List Nat) (H : List AObj) : (strike K H).length = H.length := by
  induction K generalizing H with
  | nil => rfl
  | cons i K ih => simp [ih]
theorem strike_get {K : List Nat} {H : List AObj} {i : Nat} {o : AObj} (h : (strike K H)[i]? = some o) (hne : o ≠ .dead) : i ∉ K ∧ H[i]? = some o := by
  induction K generalizing H with
  | nil => exact ⟨by simp, h⟩
  | cons k K ih =>
    obtain ⟨h1, h2⟩ := ih h
    by_cases hk : k = i
    · subst hk
      rw [List.getElem?_set] at h2
      simp at h2
      exact absurd h2.2.symm hne
    · rw [List.getElem?_set_ne hk] at h2
      exact ⟨by simp [h1, Ne.symm hk], h2⟩
theorem strike_keep {K : List Nat} {H : List AObj} {i : Nat} {o : AObj} (h : i ∉ K) (e : H[i]? = some o) : (strike K H)[i]? = some o := by
  induction K generalizing H with
  | nil => exact e
  | cons k K ih =>
    simp at h
    exact ih h.2 (by rw [List.getElem?_set_ne (by omega)]; exact e)
theorem Det.give {P : Program} {f : FuncId} {args args0 : List AV} {x : AV} {H : List AObj} {K : List Nat} (hd : Det P f args0 [] x []) (ha : Each (Seen H (fun _ _ => False)) args args0) (ho : ∀ a ∈ args, Only K a) (h0 : ∀ a ∈ args0, Closed a) (hx : Closed x)
    (hK : ∀ i ∈ K, ∀ sz rs, H[i]? = some (.rows sz rs) → ∀ row ∈ rs, ∀ c ∈ row, Closed c) (hL : ∀ i o, i ∉ K → H[i]? = some o → o ≠ .dead → SeenO H (stay H.length K) o o) : Det P f args H x (strike K H) := by
  have hd := hd.pure h0 hx (strike K H)
  obtain ⟨hc, hd⟩ := hd
  refine ⟨hc, fun E vs hH hv => ?_⟩
  let E0 : Env := ⟨E.w, fun i => if i ∈ K then none else E.s i, E.n, E.x⟩
  have hs : ∀ i l, E0.s i = some l → i ∉ K ∧ E.s i = some l := fun i l h => by
    simp only [E0] at h
    split at h
    · cases h
    · exact ⟨by assumption, h⟩
  have fr : ∀ b, E.free b → E0.free b := fun b hb => ⟨hb.1, fun id l h => hb.2.1 id l (hs id l h).2, hb.2.2⟩
  have oth : Other H (stay H.length K) E E0 := ⟨rfl, fr, fun i j h => ⟨by rw [← h.1]; show i < E.n; rw [hH.n]; exact h.2.2, fun l hl => by rw [h.1]; exact (hs j l hl).2⟩, .inr hH, .inr fun i l h hn => ⟨hH.own_lt h, fun j l' h' e => (by
    obtain ⟨h1, h2⟩ := hs j l' h'
    have := hH.inj _ _ _ _ h2 h e
    subst this
    obtain ⟨o, e1, _⟩ := hH.has j l' h2
    exact hn j ⟨rfl, h1, (List.getElem?_eq_some_iff.1 e1).1⟩), hH.apart i l h⟩⟩
  have hH0 : HRel E0 (strike K H) := ⟨by rw [strike_len]; exact hH.n, fun i l h => (by
    obtain ⟨h1, h2⟩ := hs i l h
    obtain ⟨o, e1, e2⟩ := hH.has i l h2
    have hne : o ≠ .dead := by rintro rfl; cases e2
    exact ⟨o, strike_keep h1 e1, (hL i o h1 e1 hne).rel oth hne (fun _ => Iff.rfl) e2⟩), fun i o h hne => (by
    obtain ⟨h1, h2⟩ := strike_get h hne
    obtain ⟨l, hl⟩ := hH.live i o h2 hne
    exact ⟨l, by show (if i ∈ K then none else E.s i) = some l; rw [if_neg h1]; exact hl⟩), fun i j li lj hi hj => hH.inj i j li lj (hs i li hi).2 (hs j lj hj).2, fun i l h => hH.apart i l (hs i l h).2, hH.xlt⟩
  have hv0 : VRels E0 args0 vs := ⟨by rw [hv.len, ha.1], fun i a v h1 h2 => by
    obtain ⟨b, hb⟩ := get_of_len ha.1 h1
    exact (seen_stay (ha.2 i b a hb h1) hK (ho b (List.mem_of_getElem? hb))).rel oth v (hv.at_ i b v hb h2)⟩
  refine (hd E0 vs hH0 hv0).mono fun e w' hr => ?_
  obtain ⟨v, E0', r, H1', he, hw, hrv, hH1, hext, hr1, hr2⟩ := hr
  refine ⟨v, E0', r, H1', he, hw, hrv, hH1, ⟨hext.os, hext.tape, hext.output, hext.size, fun b hb => hext.keep b (fr b hb), fun i l hi hl => ?_, hext.room, ?_, hext.x, hext.keepx⟩, hr1, hr2⟩
  · exact (hs i l (hext.ids i l (by rw [strike_len]; exact hi) hl)).2
  · have := hext.m
    rw [strike_len] at this
    exact this
/-! ### what is named, and what is not -/
def namesA : Nat → AV → List Nat
  | _, .ptr i _ _ => [i]
  | _, .sl i _ _ => [i]
  | _, .map i => [i]
  | d + 1, .agg cs => cs.flatMap (namesA d)
  | d + 1, .fn _ cs fs => cs.flatMap (namesA d) ++ fs.flatMap (namesA d)
  | _, _ => []
def shallow : Nat → AV → Prop
  | _, .ptr _ _ _ => True
  | _, .sl _ _ _ => True
  | _, .map _ => True
  | d + 1, .agg cs => ∀ a ∈ cs, shallow d a
  | d + 1, .fn _ cs fs => (∀ a ∈ cs, shallow d a) ∧ ∀ a ∈ fs, shallow d a
  | _, a => Closed a
theorem only_names {K : List Nat} : ∀ (d : Nat) (a : AV), shallow d a → (∀ i ∈ namesA d a, i ∈ K) → Only K a := fun d => by
  induction d with
  | zero =>
    intro a h hk
    cases a <;> simp only [shallow, namesA] at h hk <;> first | exact Closed.only h | exact .ptr ⟨rfl, hk _ (by simp)⟩ | exact .sl ⟨rfl, hk _ (by simp)⟩ | exact .map ⟨rfl, hk _ (by simp)⟩
  | succ d ih =>
    have lst : ∀ cs : List AV, (∀ a ∈ cs, shallow d a) → (∀ i ∈ cs.flatMap (namesA d), i ∈ K) → ∀ (i : Nat) (a b : AV), cs[i]? = some a → cs[i]? = some b → Seen [] (fun i j => i = j ∧ i ∈ K) a b := fun cs h1 h2 i a b ha hb => by
      rw [ha] at hb; cases hb
      exact ih a (h1 a (List.mem_of_getElem? ha)) fun j hj => h2 j (List.mem_flatMap.2 ⟨a, List.mem_of_getElem? ha, hj⟩)
    intro a h hk
    cases a <;> simp only [shallow, namesA] at h hk <;> first | exact Closed.only h | exact .ptr ⟨rfl, hk _ (by simp)⟩ | exact .sl ⟨rfl, hk _ (by simp)⟩ | exact .map ⟨rfl, hk _ (by simp)⟩ | skip
    · exact .fn rfl rfl (lst _ h.1 fun i hi => hk i (List.mem_append.2 (.inl hi))) (lst _ h.2 fun i hi => hk i (List.mem_append.2 (.inr hi)))
    · exact .agg rfl (lst _ h hk)
/-- Nothing in it is named by K. -/
def stD : Nat → Nat → List Nat → AV → Prop
  | _, n, K, .ptr i _ _ => i ∉ K ∧ i < n
  | _, n, K, .sl i _ _ => i ∉ K ∧ i < n
  | _, n, K, .map i => i ∉ K ∧ i < n
  | d + 1, n, K, .agg cs => ∀ a ∈ cs, stD d n K a
  | d + 1, n, K, .fn _ cs fs => (∀ a ∈ cs, stD d n K a) ∧ ∀ a ∈ fs, stD d n K a
  | _, _, _, a => Closed a
theorem stD_seen {H : List AObj} {n : Nat} {K : List Nat} : ∀ (d : Nat) (a : AV), stD d n K a → Seen H (stay n K) a a := fun d => by
  induction d with
  | zero =>
    intro a h
    cases a <;> simp only [stD] at h <;> first | exact Closed.seen h _ _ | exact .ptr ⟨rfl, h.1, h.2⟩ | exact .sl ⟨rfl, h.1, h.2⟩ | exact .map ⟨rfl, h.1, h.2⟩
  | succ d ih =>
    have lst : ∀ cs : List AV, (∀ a ∈ cs, stD d n K a) → ∀ (i : Nat) (a b : AV), cs[i]? = some a → cs[i]? = some b → Seen H (stay n K) a b := fun cs h1 i a b ha hb => by
      rw [ha] at hb; cases hb
      exact ih a (h1 a (List.mem_of_getElem? ha))
    intro a h
    cases a <;> simp only [stD] at h <;> first | exact Closed.seen h _ _ | exact .ptr ⟨rfl, h.1, h.2⟩ | exact .sl ⟨rfl, h.1, h.2⟩ | exact .map ⟨rfl, h.1, h.2⟩ | skip
    · exact .fn rfl rfl (lst _ h.1) (lst _ h.2)
    · exact .agg rfl (lst _ h)
def stO (n : Nat) (K : List Nat) : AObj → Prop
  | .dead => True
  | .rows _ rs => allR (stD 2 n K) rs
  | .imap es => ∀ e ∈ es, stD 2 n K e.2
  | .thing _ _ => True
def clO : AObj → Prop
  | .rows _ rs => allR Closed rs
  | _ => True
/-- The named objects hold nothing of one's own, the others name none of them. -/
def giveL (n : Nat) (K : List Nat) : Nat → List AObj → Prop
  | _, [] => True
  | i, o :: l => (i ∈ K → clO o) ∧ (i ∉ K → stO n K o) ∧ giveL n K (i + 1) l
theorem stO_seen {H : List AObj} {n : Nat} {K : List Nat} {o : AObj} (h : stO n K o) : SeenO H (stay n K) o o := by
  cases o with
  | dead => exact .dead _
  | rows sz rs =>
    refine .rows rfl (fun i r r' h1 h2 => by rw [h1] at h2; cases h2; rfl) fun i r r' j a b h1 h2 h3 h4 => ?_
    rw [h1] at h2; cases h2
    rw [h3] at h4; cases h4
    exact stD_seen 2 a (h r (List.mem_of_getElem? h1) a (List.mem_of_getElem? h3))
  | imap es =>
    refine .imap rfl fun i a b h1 h2 => ?_
    rw [h1] at h2; cases h2
    exact ⟨rfl, stD_seen 2 a.2 (h a (List.mem_of_getElem? h1))⟩
  | thing x P => exact .thing fun _ _ h => h
theorem giveL_at {n : Nat} {K : List Nat} : ∀ {H : List AObj} {k : Nat}, giveL n K k H → ∀ (i : Nat) o, H[i]? = some o → (k + i ∈ K → clO o) ∧ (k + i ∉ K → stO n K o)
  | [], k, h, i, o, e => by simp at e
  | p :: l, k, h, 0, o, e => by simp at e; subst e; exact ⟨h.1, h.2.1⟩
  | p :: l, k, h, i + 1, o, e => by
    have := giveL_at h.2.2 i o (by simpa using e)
    rw [show k + (i + 1) = k + 1 + i by omega]
    exact this
theorem Det.give' {P : Program} {f : FuncId} {args args0 : List AV} {x : AV} {H : List AObj} {K : List Nat} (hd : Det P f args0 [] x []) (ha : Each (Seen H (fun _ _ => False)) args args0) (ho : ∀ a ∈ args, Only K a) (h0 : ∀ a ∈ args0, Closed a) (hx : Closed x) (hg : giveL H.length K 0 H) : Det P f args H x (strike K H) := by
  refine Det.give hd ha ho h0 hx (fun i hi sz rs e row hr c hc => ?_) fun i o hi e _ => ?_
  · have := (giveL_at hg i _ e).1 (by simpa using hi)
    exact this row hr c hc
  · exact stO_seen ((giveL_at hg i o e).2 (by simpa using hi))
end Go.Proofs.Ytnjpfoblmomnlaa.Sx
/- Contracts of pure functions that are handed some of one's own memory for good ('N'). No conditions: a kit of our own. -/
namespace Go.Proofs.Ytnjpfoblmomnlaa.Sx
open Go Go.RowKit
set_option linter.unusedVariables false
set_option linter.unusedSimpArgs false

section
variable (d : Nat)
@[simp] theorem namesA_ptr (i r o : Nat) : namesA d (.ptr i r o) = [i] := by cases d <;> rfl
@[simp] theorem namesA_sl (i r l : Nat) : namesA d (.sl i r l) = [i] := by cases d <;> rfl
@[simp] theorem namesA_agg (cs : List AV) : namesA (d + 1) (.agg cs) = cs.flatMap (namesA d) := rfl
@[simp] theorem namesA_fn (f : FuncId) (cs fs : List AV) : namesA (d + 1) (.fn f cs fs) = cs.flatMap (namesA d) ++ fs.flatMap (namesA d) := rfl
@[simp] theorem namesA_int (k : IntKind) (n : Int) : namesA d (.int k n) = [] := by cases d <;> rfl
@[simp] theorem namesA_bool (b : Bool) : namesA d (.bool b) = [] := by cases d <;> rfl
@[simp] theorem namesA_view (es : List (List AV)) : namesA d (.view es) = [] := by cases d <;> rfl
@[simp] theorem namesA_vp (r : List AV) (o : Nat) : namesA d (.vp r o) = [] := by cases d <;> rfl
@[simp] theorem namesA_nils : namesA d .nils = [] := by cases d <;> rfl
@[simp] theorem shallow_ptr (i r o : Nat) : shallow d (.ptr i r o) = True := by cases d <;> rfl
@[simp] theorem shallow_sl (i r l : Nat) : shallow d (.sl i r l) = True := by cases d <;> rfl
@[simp] theorem shallow_agg (cs : List AV) : shallow (d + 1) (.agg cs) = ∀ a ∈ cs, shallow d a := rfl
@[simp] theorem shallow_fn (f : FuncId) (cs fs : List AV) : shallow (d + 1) (.fn f cs fs) = ((∀ a ∈ cs, shallow d a) ∧ ∀ a ∈ fs, shallow d a) := rfl
@[simp] theorem shallow_int (k : IntKind) (n : Int) : shallow d (.int k n) = True := by cases d <;> exact eq_true (Closed.seen (.int _ _) _ _)
@[simp] theorem shallow_bool (b : Bool) : shallow d (.bool b) = True := by cases d <;> exact eq_true (Closed.seen (.bool _) _ _)
@[simp] theorem shallow_nils : shallow d .nils = True := by cases d <;> exact eq_true (Closed.seen .nils _ _)
@[simp] theorem shallow_view (es : List (List AV)) : shallow d (.view es) = Closed (.view es) := by cases d <;> rfl
@[simp] theorem shallow_vp (r : List AV) (o : Nat) : shallow d (.vp r o) = Closed (.vp r o) := by cases d <;> rfl
variable (n : Nat) (K : List Nat)
@[simp] theorem stD_ptr (i r o : Nat) : stD d n K (.ptr i r o) = (i ∉ K ∧ i < n) := by cases d <;> rfl
@[simp] theorem stD_sl (i r l : Nat) : stD d n K (.sl i r l) = (i ∉ K ∧ i < n) := by cases d <;> rfl
@[simp] theorem stD_agg (cs : List AV) : stD (d + 1) n K (.agg cs) = ∀ a ∈ cs, stD d n K a := rfl
@[simp] theorem stD_fn (f : FuncId) (cs fs : List AV) : stD (d + 1) n K (.fn f cs fs) = ((∀ a ∈ cs, stD d n K a) ∧ ∀ a ∈ fs, stD d n K a) := rfl
@[simp] theorem stD_int (k : IntKind) (m : Int) : stD d n K (.int k m) = True := by cases d <;> exact eq_true (Closed.seen (.int _ _) _ _)
@[simp] theorem stD_bool (b : Bool) : stD d n K (.bool b) = True := by cases d <;> exact eq_true (Closed.seen (.bool _) _ _)
@[simp] theorem stD_nils : stD d n K .nils = True := by cases d <;> exact eq_true (Closed.seen .nils _ _)
@[simp] theorem stD_str (s : ByteArray) : stD d n K (.str s) = True := by cases d <;> exact eq_true (Closed.seen (.str _) _ _)
@[simp] theorem stD_view (es : List (List AV)) : stD d n K (.view es) = Closed (.view es) := by cases d <;> rfl
@[simp] theorem stD_vp (r : List AV) (o : Nat) : stD d n K (.vp r o) = Closed (.vp r o) := by cases d <;> rfl
end
theorem closed_vpc {α : Type} [Cel α] (x : α) : Closed (.vp (Cel.c x) 0) := .vp rfl fun i a b h1 h2 => by rw [h1] at h2; cases h2; exact Cel.closed x a (List.mem_of_getElem? h1)
/-- Cells of a value are closed. -/
theorem clC {α : Type} [Cel α] (x : α) : allC Closed (Cel.c x) = True := allC_c (fun x a h => Cel.closed x a h) x
theorem clR {α : Type} [Cel α] (xs : List α) : allR Closed (xs.map Cel.c) = True := allR_c (fun x a h => Cel.closed x a h) xs
attribute [simp] stO clO giveL clC clR
@[simp] theorem closed_int' (k : IntKind) (n : Int) : Closed (.int k n) = True := eq_true (.int _ _)
@[simp] theorem closed_bool' (b : Bool) : Closed (.bool b) = True := eq_true (.bool _)
@[simp] theorem closed_nils' : Closed .nils = True := eq_true .nils
@[simp] theorem closed_any' : Closed .any = True := eq_true (.any _)
/-- One's own objects that the arguments name hold nothing of one's own, and nothing else names them. -/
def handed (H : List AObj) (av : List AV) : Prop := (∀ a ∈ av, shallow 3 a) ∧ giveL H.length (av.flatMap (namesA 3)) 0 H
theorem handed_only {H : List AObj} {av : List AV} (h : handed H av) : ∀ a ∈ av, Only (av.flatMap (namesA 3)) a := fun a ha => only_names 3 a (h.1 a ha) fun i hi => List.mem_flatMap.2 ⟨a, ha, hi⟩
def N1 {α0 : Type} [Cel α0] (pre : α0 → Prop) (F : α0 → AV) : Ctr := ⟨fun a H => match a with
  | [a0] => (okA α0 H a0 ∧ handed H [a0]) ∧ pre (de α0 H a0)
  | _ => False, fun a H => match a with
  | [a0] => F (de α0 H a0)
  | _ => .any, fun a H => strike (a.flatMap (namesA 3)) H⟩
@[simp] theorem N1_pre {α0 : Type} [Cel α0] (pre : α0 → Prop) (F : α0 → AV) (a0 : AV) (H : List AObj) : (N1 pre F).pre [a0] H = ((okA α0 H a0 ∧ handed H [a0]) ∧ pre (de α0 H a0)) := rfl
@[simp] theorem N1_val {α0 : Type} [Cel α0] (pre : α0 → Prop) (F : α0 → AV) (a0 : AV) (H : List AObj) : (N1 pre F).val [a0] H = F (de α0 H a0) := rfl
@[simp] theorem N1_hp {α0 : Type} [Cel α0] (pre : α0 → Prop) (F : α0 → AV) (a0 : AV) (H : List AObj) : (N1 pre F).hp [a0] H = strike ([a0].flatMap (namesA 3)) H := rfl
def N2 {α0 α1 : Type} [Cel α0] [Cel α1] (pre : α0 → α1 → Prop) (F : α0 → α1 → AV) : Ctr := ⟨fun a H => match a with
  | [a0, a1] => ((okA α0 H a0 ∧ okA α1 H a1) ∧ handed H [a0, a1]) ∧ pre (de α0 H a0) (de α1 H a1)
  | _ => False, fun a H => match a with
  | [a0, a1] => F (de α0 H a0) (de α1 H a1)
  | _ => .any, fun a H => strike (a.flatMap (namesA 3)) H⟩
@[simp] theorem N2_pre {α0 α1 : Type} [Cel α0] [Cel α1] (pre : α0 → α1 → Prop) (F : α0 → α1 → AV) (a0 a1 : AV) (H : List AObj) : (N2 pre F).pre [a0, a1] H = (((okA α0 H a0 ∧ okA α1 H a1) ∧ handed H [a0, a1]) ∧ pre (de α0 H a0) (de α1 H a1)) := rfl
@[simp] theorem N2_val {α0 α1 : Type} [Cel α0] [Cel α1] (pre : α0 → α1 → Prop) (F : α0 → α1 → AV) (a0 a1 : AV) (H : List AObj) : (N2 pre F).val [a0, a1] H = F (de α0 H a0) (de α1 H a1) := rfl
@[simp] theorem N2_hp {α0 α1 : Type} [Cel α0] [Cel α1] (pre : α0 → α1 → Prop) (F : α0 → α1 → AV) (a0 a1 : AV) (H : List AObj) : (N2 pre F).hp [a0, a1] H = strike ([a0, a1].flatMap (namesA 3)) H := rfl
theorem known_N2 {P : Program} {f : FuncId} {α0 α1 : Type} [Cel α0] [Cel α1] {pre : α0 → α1 → Prop} {F : α0 → α1 → AV} (h : ∀ x0 x1, pre x0 x1 → Det P f [en x0, en x1] [] (F x0 x1) []) (hc : ∀ x0 x1, pre x0 x1 → Closed (F x0 x1)) : Known P f (N2 pre F) := fun args H hp0 => by
  match args, hp0 with
  | [a0, a1], hp0 =>
    obtain ⟨⟨⟨h0, h1⟩, h2⟩, hp⟩ := hp0
    exact Det.give' (h _ _ hp) (each_cons (okA_seen h0) (each_cons (okA_seen h1) each_nil)) (handed_only h2) (by simp [closed_en]) (hc _ _ hp) h2.2
attribute [simp] handed
end Go.Proofs.Ytnjpfoblmomnlaa.Sx
/- Closures over three boxed variables; names of values told of in loops. No conditions: a kit of our own. -/
namespace Go.Proofs.Ytnjpfoblmomnlaa.Sx
open Go Go.RowKit
set_option linter.unusedVariables false
set_option linter.unusedSimpArgs false

structure Clo3 (f : FuncId) (α β γ : Type) where
  v : α
  w : β
  y : γ
instance {f : FuncId} {α β γ : Type} [Cel α] [Cel β] [Cel γ] : Cel (Clo3 f α β γ) where
  n := 1
  agg := false
  c x := [.fn f [] [.vp (Cel.c x.v) 0, .vp (Cel.c x.w) 0, .vp (Cel.c x.y) 0]]
  u H cs := ⟨Cel.u H (bxV H (nth (fnFree cs) 0 .any)), Cel.u H (bxV H (nth (fnFree cs) 1 .any)), Cel.u H (bxV H (nth (fnFree cs) 2 .any))⟩
  ok H cs := ∃ p q r, cs = [.fn f [] [p, q, r]] ∧ (bxP H p ∧ Cel.ok (α := α) H (bxV H p)) ∧ (bxP H q ∧ Cel.ok (α := β) H (bxV H q)) ∧ bxP H r ∧ Cel.ok (α := γ) H (bxV H r)
  len x := rfl
  plain x a h := by simp at h; subst h; rfl
  closed x a h := by
    simp at h; subst h
    refine .fn rfl rfl (fun i a b h => by simp at h) fun i a b h1 h2 => ?_
    match i with
    | 0 =>
      simp at h1 h2; subst h1; subst h2
      exact closed_vpc _
    | 1 =>
      simp at h1 h2; subst h1; subst h2
      exact closed_vpc _
    | 2 =>
      simp at h1 h2; subst h1; subst h2
      exact closed_vpc _
    | i + 3 => simp at h1
  nn x := by simp
  one _ := rfl
  u_c H x := by simp
  ok_c H x := ⟨_, _, _, rfl, by simp, by simp, by simp⟩
  seen H cs h := by
    obtain ⟨p, q, r, rfl, ⟨h1, h2⟩, ⟨h3, h4⟩, h5, h6⟩ := h
    refine each_cons (.fn rfl rfl (fun i a b h => by simp at h) fun i a b h1' h2' => ?_) each_nil
    match i with
    | 0 =>
      simp at h1' h2'; subst h1'; subst h2'
      exact bx_seen h1 h2
    | 1 =>
      simp at h1' h2'; subst h1'; subst h2'
      exact bx_seen h3 h4
    | 2 =>
      simp at h1' h2'; subst h1'; subst h2'
      exact bx_seen h5 h6
    | i + 3 => simp at h1'
section
variable {f g : FuncId} {α β γ : Type} [Cel α] [Cel β] [Cel γ]
@[simp] theorem c_clo3 (x : Clo3 f α β γ) : Cel.c x = [.fn f [] [.vp (Cel.c x.v) 0, .vp (Cel.c x.w) 0, .vp (Cel.c x.y) 0]] := rfl
@[simp] theorem en_clo3 (x : Clo3 f α β γ) : en x = .fn f [] [.vp (Cel.c x.v) 0, .vp (Cel.c x.w) 0, .vp (Cel.c x.y) 0] := rfl
@[simp] theorem agg_clo3 : Cel.agg (Clo3 f α β γ) = false := rfl
@[simp] theorem u_clo3 (H : List AObj) (cs : List AV) (p q r : AV) : Cel.u (α := Clo3 f α β γ) H [.fn g cs [p, q, r]] = ⟨Cel.u H (bxV H p), Cel.u H (bxV H q), Cel.u H (bxV H r)⟩ := rfl
@[simp] theorem ok_clo3 (H : List AObj) (cs : List AV) (p q r : AV) : Cel.ok (α := Clo3 f α β γ) H [.fn g cs [p, q, r]] = ((g = f ∧ cs = []) ∧ (bxP H p ∧ Cel.ok (α := α) H (bxV H p)) ∧ (bxP H q ∧ Cel.ok (α := β) H (bxV H q)) ∧ bxP H r ∧ Cel.ok (α := γ) H (bxV H r)) := by
  show (∃ a b c, [AV.fn g cs [p, q, r]] = [.fn f [] [a, b, c]] ∧ (bxP H a ∧ Cel.ok (α := α) H (bxV H a)) ∧ (bxP H b ∧ Cel.ok (α := β) H (bxV H b)) ∧ bxP H c ∧ Cel.ok (α := γ) H (bxV H c)) = _
  apply propext
  constructor
  · rintro ⟨a, b, c, h1, h2, h3, h4, h5⟩
    simp at h1
    obtain ⟨rfl, rfl, rfl, rfl, rfl⟩ := h1
    exact ⟨⟨rfl, rfl⟩, h2, h3, h4, h5⟩
  · rintro ⟨⟨rfl, rfl⟩, h2, h3, h4, h5⟩
    exact ⟨p, q, r, rfl, h2, h3, h4, h5⟩
end
theorem closed_tupl {l : List AV} (h : ∀ a ∈ l, Closed a) : Closed (.tup l) := .tup rfl fun i a b h1 h2 => by rw [h1] at h2; cases h2; exact h a (List.mem_of_getElem? h1)
theorem mem_drop {α : Type} {l : List α} {i : Nat} {a : α} {r : List α} (h : l.drop i = a :: r) : a ∈ l := List.mem_of_mem_drop (i := i) (by rw [h]; simp)
end Go.Proofs.Ytnjpfoblmomnlaa.Sx
