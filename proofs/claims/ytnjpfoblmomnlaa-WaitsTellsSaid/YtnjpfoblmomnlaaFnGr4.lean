/- Package graph: a web is made. No conditions: a kit of our own. -/
import Derived.Test.YtnjpfoblmomnlaaFnGr2
import Derived.Test.YtnjpfoblmomnlaaSrt3
import Derived.Test.YtnjpfoblmomnlaaGr0
namespace Go.Proofs.Ytnjpfoblmomnlaa.Sx
open Go Go.Shelf Go.RowKit
open Hp (mget mput mdel HpS)
set_option linter.unusedVariables false
set_option linter.unusedSimpArgs false
set_option maxHeartbeats 8000000

/-! ### Sort and Compact of a clone -/
def cSortE : Ctr := ⟨fun a H => match a with
  | [.view es] => es = []
  | a => cSortB.pre a H, fun a H => .tup [], fun a H => match a with
  | [.view es] => H
  | a => cSortB.hp a H⟩
theorem known_SortE : Known Try.prog 159 cSortE := fun args H hp => by
  match args, hp with
  | [.view es], hp =>
    obtain rfl : es = [] := hp
    refine ⟨by kernel_rfl, fun E vs hH hv => ?_⟩
    obtain ⟨v, rfl⟩ : ∃ v, vs = [v] := by
      have h := hv.len
      match vs, h with
      | [v], _ => exact ⟨v, rfl⟩
    have g := hv.at_ 0 _ v rfl rfl
    have fin : ∀ p cap, Calls Try.prog 159 #[.slice p 0 cap] E.w fun e w' => ∃ v E' r H', e = .returned v ∧ E'.w = w' ∧ VRel E' r v ∧ HRel E' H' ∧ Ext H.length E E' ∧ r = .tup [] ∧ H' = H := fun p cap => by
      refine (Any.slices_Sort_int_none sortLays p cap E.w).mono fun e w' ⟨he', hw⟩ => ?_
      subst hw
      exact ⟨.tuple #[], E, .tup [], H, he', rfl, .tup rfl fun i a v h1 h2 => by simp at h1, hH, Ext.refl (by rw [hH.n]; exact Nat.le_refl _), rfl, rfl⟩
    cases g with
    | view0 p cap => exact fin p cap
    | view c hb hcap => exact fin _ _
  | [.nils], hp => exact known_SortB [.nils] H hp
  | [.sl id r n], hp => exact known_SortB [.sl id r n] H hp
theorem sortE_pre {H : List AObj} {id : Nat} {l : List Int} (h : H[id]? = some (bob 1 (l.map Cel.c))) (hl : l.length ≤ 1073741824) : cSortE.pre [ow id (l.map Cel.c)] H := by
  cases l with
  | nil => exact (rfl : ([] : List (List AV)) = [])
  | cons x l => exact ⟨rfl, x :: l, by simp, h, hl⟩
theorem sortE_hp {H : List AObj} {id : Nat} {l : List Int} (h : H[id]? = some (bob 1 (l.map Cel.c))) : cSortE.hp [ow id (l.map Cel.c)] H = H.set id (bob 1 ((sorted l).map Cel.c)) := by
  cases l with
  | nil =>
    show H = _
    have : sorted [] = [] := by simp [sorted]
    rw [this]
    exact (set_same h).symm
  | cons x l =>
    have hr : rowsOf H id = (x :: l).map Cel.c := by simp only [rowsOf, h, rowsO_bob]
    have hu : ((x :: l).map Cel.c).map (Cel.u (α := Int) []) = x :: l := by rw [List.map_map]; exact map_self fun x _ => Cel.u_c [] x
    show H.set id (.rows 1 ((sorted ((rowsOf H id).map (Cel.u []))).map Cel.c)) = _
    rw [hr, hu, bob_ne]
    intro e
    have := congrArg List.length e
    simp [sorted] at this
theorem det_CompactV : Det Try.prog 257 [.view []] [] (.view []) [] := by
  refine det_fin0 mixed0 knows_nil ok_slices_Compact_int_int (by simp) ?_
  simp [ic_slices_Compact_int_int, rs_slices_Compact_int_int]
def cCompactE : Ctr := ⟨fun a H => match a with
  | [.view es] => es = []
  | a => cCompactB.pre a H, fun a H => match a with
  | [.view es] => .view []
  | a => cCompactB.val a H, fun a H => match a with
  | [.view es] => H
  | a => cCompactB.hp a H⟩
theorem closed_view0 : Closed (.view []) := .view rfl (fun i r r' h => by simp at h) (fun i r r' j a b h => by simp at h)
theorem known_CompactE : Known Try.prog 257 cCompactE := fun args H hp => by
  match args, hp with
  | [.view es], hp =>
    obtain rfl : es = [] := hp
    exact det_CompactV.pure (by simp [closed_view0]) closed_view0 H
  | [.nils], hp => exact known_CompactB [.nils] H hp
  | [.sl id r n], hp => exact known_CompactB [.sl id r n] H hp
theorem compE_pre {H : List AObj} {id : Nat} {l s : List Int} (h : H[id]? = some (bob 1 (s.map Cel.c))) (hs : s.length = l.length) (hl : l.length ≤ 1073741824) : cCompactE.pre [ow id (l.map Cel.c)] H := by
  cases l with
  | nil => exact (rfl : ([] : List (List AV)) = [])
  | cons x l =>
    cases s with
    | nil => simp at hs
    | cons y s => exact ⟨rfl, y :: s, ⟨by simpa using hs.symm, by simp⟩, h, by rw [hs]; exact hl⟩
theorem compE_val {H : List AObj} {id : Nat} {l s : List Int} (h : H[id]? = some (bob 1 (s.map Cel.c))) (hs : s.length = l.length) : cCompactE.val [ow id (l.map Cel.c)] H = ow id ((comp s).map Cel.c) := by
  cases l with
  | nil =>
    cases s with
    | nil => rfl
    | cons y s => simp at hs
  | cons x l =>
    cases s with
    | nil => simp at hs
    | cons y s =>
      have hr : rowsOf H id = (y :: s).map Cel.c := by simp only [rowsOf, h, rowsO_bob]
      have hu : ((y :: s).map Cel.c).map (Cel.u (α := Int) []) = y :: s := by rw [List.map_map]; exact map_self fun x _ => Cel.u_c [] x
      show AV.sl id 0 (comp ((rowsOf H id).map (Cel.u []))).length = _
      rw [hr, hu, ow_ne]
      · simp
      · intro e
        rw [comp_head] at e
        simp at e
theorem compE_hp {H : List AObj} {id : Nat} {l s : List Int} (h : H[id]? = some (bob 1 (s.map Cel.c))) (hs : s.length = l.length) : cCompactE.hp [ow id (l.map Cel.c)] H = H.set id (bob 1 ((comp s).map Cel.c ++ List.replicate (l.length - (comp s).length) [.int .i64 0])) := by
  cases l with
  | nil =>
    cases s with
    | nil => exact (set_same h).symm
    | cons y s => simp at hs
  | cons x l =>
    cases s with
    | nil => simp at hs
    | cons y s =>
      have hr : rowsOf H id = (y :: s).map Cel.c := by simp only [rowsOf, h, rowsO_bob]
      have hu : ((y :: s).map Cel.c).map (Cel.u (α := Int) []) = y :: s := by rw [List.map_map]; exact map_self fun x _ => Cel.u_c [] x
      show H.set id (.rows 1 ((comp ((rowsOf H id).map (Cel.u []))).map Cel.c ++ List.replicate (((x :: l).map Cel.c).length - (comp ((rowsOf H id).map (Cel.u []))).length) [.int .i64 0])) = _
      rw [hr, hu, bob_ne]
      · simp
      · intro e
        rw [comp_head] at e
        simp at e
/-! ### maps of whatever -/
def im {β : Type} (f : β → AV) (e : Int × β) : Int × AV := (e.1, f e.2)
@[simp] theorem alook_im {β : Type} (f : β → AV) (m : List (Int × β)) (k : Int) : alook (m.map (im f)) k = (mget m k).map f := by
  induction m with
  | nil => rfl
  | cons x m ih =>
    simp only [alook, mget, List.map_cons, List.find?_cons] at ih ⊢
    simp only [im]
    split
    · rfl
    · exact ih
theorem aput_im {β : Type} (f : β → AV) (m : List (Int × β)) (k : Int) (v : β) : aput (m.map (im f)) k (f v) = (mput m k v).map (im f) := by
  induction m with
  | nil => rfl
  | cons x m ih =>
    simp only [List.map_cons, aput, mput]
    have : (im f x).1 = x.1 := rfl
    rw [this]
    split
    · rfl
    · rw [ih]; rfl
/-- A list of the web, and its object's name. -/
def wAV (e : Nat × List Int) : AV := .sl e.1 0 e.2.length
def clD : AObj → Prop
  | .dead => True
  | .rows _ rs => allR Closed rs
  | _ => False
def toOf (m : List (Int × Nat × List Int)) : List (Int × List Int) := m.map fun e => (e.1, e.2.2)
theorem toOf_get (m : List (Int × Nat × List Int)) (k : Int) : mget (toOf m) k = (mget m k).map (·.2) := by
  induction m with
  | nil => rfl
  | cons x m ih =>
    simp only [toOf, mget, List.map_cons, List.find?_cons] at ih ⊢
    split
    · rfl
    · exact ih
theorem toOf_put (m : List (Int × Nat × List Int)) (k : Int) (j : Nat) (l : List Int) : toOf (mput m k (j, l)) = mput (toOf m) k l := by
  induction m with
  | nil => rfl
  | cons x m ih =>
    simp only [toOf, List.map_cons, mput] at ih ⊢
    split
    · rfl
    · simp only [List.map_cons, ih]
/-- The lists lie in D, each in an object of its own. -/
structure HD (D : List AObj) (m : List (Int × Nat × List Int)) (i : Nat) : Prop where
  obj : ∀ k j l, mget m k = some (j, l) → 4 ≤ j ∧ D[j - 4]? = some (.rows 1 (l.map Cel.c)) ∧ l.length ≤ i
  inj : ∀ k k' j l l', mget m k = some (j, l) → mget m k' = some (j, l') → k = k'
  cl : ∀ o ∈ D, clD o
  once : Hp.Once m
theorem clD_low {k : Nat} {o : AObj} (h : clD o) : LowO k o := by
  cases o with
  | dead => exact .dead _
  | rows sz rs => exact seenO_cl h
  | imap es => exact h.elim
  | thing x P => exact h.elim
theorem mget_mem {β : Type} {m : List (Int × β)} (h : Hp.Once m) {e : Int × β} (he : e ∈ m) : mget m e.1 = some e.2 := by
  induction m with
  | nil => simp at he
  | cons x m ih =>
    simp only [Hp.Once, List.map_cons, List.nodup_cons] at h
    simp only [mget, List.find?_cons] at ih ⊢
    rcases List.mem_cons.1 he with rfl | he
    · simp
    · have : (x.1 == e.1) = false := by
        simp only [beq_eq_false_iff_ne]
        exact fun hx => h.1 (by rw [hx]; exact List.mem_map_of_mem he)
      rw [this]
      exact ih h.2 he
theorem HD.put {D D' : List AObj} {m : List (Int × Nat × List Int)} {i j : Nat} {k : Int} {l : List Int} (h : HD D m i) (hj : 4 ≤ j) (hD : D'[j - 4]? = some (.rows 1 (l.map Cel.c))) (hl : l.length ≤ i + 1) (hold : ∀ k' j' l', k' ≠ k → mget m k' = some (j', l') → j' ≠ j ∧ D'[j' - 4]? = D[j' - 4]?) (hcl : ∀ o ∈ D', clD o) : HD D' (mput m k (j, l)) (i + 1) := by
  refine ⟨fun k1 j1 l1 hg => ?_, fun k1 k2 j1 l1 l2 h1 h2 => ?_, hcl, Hp.once_put h.once _ _⟩
  · rw [Hp.mget_put] at hg
    split at hg
    · cases hg; exact ⟨hj, hD, hl⟩
    · rename_i hne
      obtain ⟨g1, g2, g3⟩ := h.obj k1 j1 l1 hg
      exact ⟨g1, by rw [(hold k1 j1 l1 hne hg).2]; exact g2, by omega⟩
  · rw [Hp.mget_put] at h1 h2
    split at h1 <;> split at h2
    · rename_i e1 e2; rw [e1, e2]
    · rename_i e1 e2; cases h1; exact absurd rfl (hold k2 _ _ e2 h2).1
    · rename_i e1 e2; cases h2; exact absurd rfl (hold k1 _ _ e1 h1).1
    · exact h.inj _ _ _ _ _ h1 h2
theorem HD.more {D : List AObj} {m : List (Int × Nat × List Int)} {i : Nat} {x : AObj} (h : HD D m i) (hx : clD x) : HD (D ++ [x]) m (i + 1) := by
  refine ⟨fun k j l hg => ?_, h.inj, fun o ho => ?_, h.once⟩
  · obtain ⟨g1, g2, g3⟩ := h.obj k j l hg
    have := (List.getElem?_eq_some_iff.1 g2).1
    exact ⟨g1, by rw [List.getElem?_append_left this]; exact g2, by omega⟩
  · rcases List.mem_append.1 ho with h1 | h1
    · exact h.cl o h1
    · rw [List.mem_singleton.1 h1]; exact hx
@[simp] theorem lookI (m : List (Int × Int)) (k : Int) : lookAns (.int .i64 0) false ((mget m k).map (AV.int .i64)) = .int .i64 (Gr.lvOf m k) := by
  unfold Gr.lvOf
  cases mget m k <;> rfl
@[simp] theorem look_some (z v : AV) : lookAns z false (some v) = v := rfl
@[simp] theorem look_none (z : AV) : lookAns z false none = z := rfl
theorem clD_pair (a b : Int) : clD (.rows 2 [[.int .i64 a, .int .i64 b]]) := fun r hr x hx => by
  simp at hr; subst hr
  simp at hx
  rcases hx with rfl | rfl <;> exact .int _ _
theorem clD_ints (sz : Nat) (l : List Int) : clD (.rows sz (l.map Cel.c)) := fun r hr x hx => by
  obtain ⟨y, _, rfl⟩ := List.mem_map.1 hr
  exact Cel.closed y x hx
theorem lv_more {fr : List (Int × Int)} {i : Nat} {k : Int} (h : ∀ n, 0 ≤ Gr.lvOf fr n ∧ Gr.lvOf fr n ≤ i) (n : Int) : 0 ≤ Gr.lvOf (mput fr k (Gr.lvOf fr k + 1)) n ∧ Gr.lvOf (mput fr k (Gr.lvOf fr k + 1)) n ≤ (i : Int) + 1 := by
  rw [Gr.lvOf_put]
  have h1 := h k
  have h2 := h n
  split <;> omega
/-! ### the web -/
theorem ow_ok (N : List Int) (x : List (List AV)) (T : List AObj) : Cel.ok (α := List Int) (bob 1 (N.map Cel.c ++ x) :: T) [ow 0 (N.map Cel.c)] ∧ Cel.u (α := List Int) (bob 1 (N.map Cel.c ++ x) :: T) [ow 0 (N.map Cel.c)] = N := by
  cases N with
  | nil => exact ⟨Cel.ok_c _ ([] : List Int), rfl⟩
  | cons a N =>
    have hr : rowsOf (bob 1 ((a :: N).map Cel.c ++ x) :: T) 0 = (a :: N).map Cel.c ++ x := by simp [rowsOf]
    have hi : isRows (bob 1 ((a :: N).map Cel.c ++ x) :: T) 0 := by simp [isRows]
    constructor
    · show isRows (bob 1 ((a :: N).map Cel.c ++ x) :: T) 0 ∧ 0 + ((N.map Cel.c).length + 1) ≤ (rowsOf (bob 1 ((a :: N).map Cel.c ++ x) :: T) 0).length ∧ ∀ row ∈ ((rowsOf (bob 1 ((a :: N).map Cel.c ++ x) :: T) 0).drop 0).take ((N.map Cel.c).length + 1), Cel.ok (α := Int) (bob 1 ((a :: N).map Cel.c ++ x) :: T) row
      rw [hr]
      refine ⟨hi, by simp, ?_⟩
      intro row hrow
      have : row ∈ (a :: N).map Cel.c := by
        rw [List.drop_zero, List.take_append_of_le_length (by simp)] at hrow
        exact List.mem_of_mem_take hrow
      obtain ⟨y, _, rfl⟩ := List.mem_map.1 this
      exact Cel.ok_c _ y
    · simp only [List.map_cons, ow_cons, u_sl]
      rw [show bob 1 (Cel.c a :: N.map Cel.c ++ x) :: T = bob 1 ((a :: N).map Cel.c ++ x) :: T from rfl, hr]
      rw [List.drop_zero, List.take_append_of_le_length (by simp), List.take_of_length_le (by simp), List.map_map]
      exact map_self fun y _ => Cel.u_c _ y
theorem seen_fz {α : Type} [Cel α] {H : List AObj} {R : Nat → Nat → Prop} {i sz : Nat} {l : List α} {x : List (List AV)} (ho : H[i]? = some (.rows sz (l.map Cel.c ++ x))) (hn : ∀ j, ¬ R i j) : Seen H R (.sl i 0 l.length) (.view (l.map Cel.c)) := by
  have at_ : ∀ (k : Nat) (r r' : List AV), (l.map Cel.c ++ x)[0 + k]? = some r → (l.map Cel.c)[k]? = some r' → r' = r := fun k r r' h1 h2 => by
    have hlt := (List.getElem?_eq_some_iff.1 h2).1
    rw [Nat.zero_add, List.getElem?_append_left hlt, h2] at h1
    exact Option.some.inj h1
  refine .fz ho hn (by simp) (by simp) (fun k r r' h1 h2 => by rw [at_ k r r' h1 h2]) fun k r r' j a b h1 h2 h3 h4 => ?_
  rw [at_ k r r' h1 h2, h3] at h4
  cases h4
  have := List.mem_of_getElem? h2
  rw [at_ k r r' h1 h2] at this
  obtain ⟨y, _, rfl⟩ := List.mem_map.1 this
  exact Closed.seen (Cel.closed y a (List.mem_of_getElem? h3)) _ _
theorem seen_ow {H : List AObj} {R : Nat → Nat → Prop} {i : Nat} {l : List Int} {x : List (List AV)} (ho : H[i]? = some (bob 1 (l.map Cel.c ++ x))) (hn : ∀ j, ¬ R i j) : Seen H R (ow i (l.map Cel.c)) (.view (l.map Cel.c)) := by
  cases l with
  | nil => exact closed_view0.seen _ _
  | cons a l =>
    have := seen_fz (l := a :: l) (x := x) (H := H) (R := R) (i := i) (sz := 1) ho hn
    simpa using this
theorem seenO_row3 {H : List AObj} {R : Nat → Nat → Prop} {a b c a' b' c' : AV} (h1 : Seen H R a a') (h2 : Seen H R b b') (h7 : Seen H R c c') : SeenO H R (.rows 3 [[a, b, c]]) (.rows 3 [[a', b', c']]) := .rows rfl (fun i r r' h1 h2 => by
  match i with
  | 0 => simp at h1 h2; subst h1; subst h2; rfl
  | i + 1 => simp at h1) fun i r r' j x y h3 h4 h5 h6 => by
  match i with
  | 0 =>
    simp at h3 h4; subst h3; subst h4
    match j with
    | 0 => simp at h5 h6; subst h5; subst h6; exact h1
    | 1 => simp at h5 h6; subst h5; subst h6; exact h2
    | 2 => simp at h5 h6; subst h5; subst h6; exact h7
    | j + 3 => simp at h5
  | i + 1 => simp at h3
def webS (N : List Int) (to : List (Int × List Int)) (fr : List (Int × Int)) : List AObj := [.rows 3 [[.view (N.map Cel.c), .map 1, .map 2]], .imap (to.map (im fun l => .view (l.map Cel.c))), .imap (fr.map ie)]
theorem det_of (ids : List Int) (A : List Arc) (hi : ids.length ≤ 1073741824) (hA : A.length ≤ 1073741823) : Det Try.prog 207 [en ids, en A] [] (.ptr 0 0 0) (webS (comp (sorted ids)) (Gr.ofTo (comp (sorted ids)) A) (Gr.ofFr (comp (sorted ids)) A)) := by
  have hs : (sorted ids).length = ids.length := by simp [sorted]
  have hc : (comp (sorted ids)).length ≤ ids.length := by have := comp_len (sorted ids); omega
  have hN : (comp (sorted ids)).Pairwise (· < ·) := rise_comp (sorted_le ids)
  have hnb : (comp (sorted ids)).length ≤ 1073741824 := by omega
  refine acall_of_vcQ mixed0 (knows_cons known_CloneO (knows_cons known_SortE (knows_cons known_CompactE (knows_cons known_Has knows_nil)))) ok_graph_of (by simp) (Q := fun e s => (e = .ret ∨ e = .normal) ∧ resp s rs_graph_of ∧ one (resv s rs_graph_of) = .ptr 3 0 0 ∧ ∃ m fr D o0 na, s.hp = [o0, .imap (m.map (im wAV)), .imap (fr.map ie), .rows 3 [[na, .map 1, .map 2]]] ++ D ∧ (na = ow 0 ((comp (sorted ids)).map Cel.c) ∧ ∃ x, o0 = bob 1 ((comp (sorted ids)).map Cel.c ++ x)) ∧ HD D m A.length ∧ toOf m = Gr.ofTo (comp (sorted ids)) A ∧ fr = Gr.ofFr (comp (sorted ids)) A) ?_ ?_
  · simp only [List.length_nil]
    have e1 : ∀ T : List AObj, cSortE.pre [ow 0 (ids.map Cel.c)] (bob 1 (ids.map Cel.c) :: T) := fun T => sortE_pre rfl hi
    have e2 : ∀ T : List AObj, cSortE.hp [ow 0 (ids.map Cel.c)] (bob 1 (ids.map Cel.c) :: T) = bob 1 ((sorted ids).map Cel.c) :: T := fun T => sortE_hp rfl
    have e3 : ∀ T : List AObj, cCompactE.pre [ow 0 (ids.map Cel.c)] (bob 1 ((sorted ids).map Cel.c) :: T) := fun T => compE_pre rfl hs hi
    have e4 : ∀ T : List AObj, cCompactE.val [ow 0 (ids.map Cel.c)] (bob 1 ((sorted ids).map Cel.c) :: T) = ow 0 ((comp (sorted ids)).map Cel.c) := fun T => compE_val rfl hs
    have e5 : ∀ T : List AObj, cCompactE.hp [ow 0 (ids.map Cel.c)] (bob 1 ((sorted ids).map Cel.c) :: T) = bob 1 ((comp (sorted ids)).map Cel.c ++ List.replicate (ids.length - (comp (sorted ids)).length) [.int .i64 0]) :: T := fun T => compE_hp rfl hs
    simp [ic_graph_of, rs_graph_of, cCloneO, hi, e1, e2, e3, e4, e5, vcLoose, heapsOf]
    have hok := fun T => (ow_ok (comp (sorted ids)) (List.replicate (ids.length - (comp (sorted ids)).length) [.int .i64 0]) T).1
    have hu := fun T => (ow_ok (comp (sorted ids)) (List.replicate (ids.length - (comp (sorted ids)).length) [.int .i64 0]) T).2
    have hlo : ∀ k, LowO k (bob 1 ((comp (sorted ids)).map Cel.c ++ List.replicate (ids.length - (comp (sorted ids)).length) [.int .i64 0])) := fun k => by
      rw [lowO_bob]
      intro row hrow a ha
      rcases List.mem_append.1 hrow with hr | hr
      · obtain ⟨y, _, rfl⟩ := List.mem_map.1 hr
        exact Closed.seen (Cel.closed y a ha) _ _
      · have := List.eq_of_mem_replicate hr
        subst this
        simp at ha; subst ha
        exact .int _ _
    have hln : ∀ k, 0 < k → Low k (ow 0 ((comp (sorted ids)).map Cel.c)) := fun k hk => by
      cases comp (sorted ids) with
      | nil => exact closed_view0.seen _ _
      | cons x l => exact .sl ⟨rfl, hk⟩
    have hpl : AV.plain (ow 0 ((comp (sorted ids)).map Cel.c)) = true := by cases comp (sorted ids) <;> rfl
    have hx : ∃ x, bob 1 ((comp (sorted ids)).map Cel.c ++ List.replicate (ids.length - (comp (sorted ids)).length) [.int .i64 0]) = bob 1 ((comp (sorted ids)).map Cel.c ++ x) := ⟨_, rfl⟩
    clear e1 e2 e3 e4 e5
    generalize ho : bob 1 ((comp (sorted ids)).map Cel.c ++ List.replicate (ids.length - (comp (sorted ids)).length) [.int .i64 0]) = o0 at *
    generalize hn : ow 0 ((comp (sorted ids)).map Cel.c) = na at *
    generalize hNe : comp (sorted ids) = N at *
    refine LoopC.scanB Arc.zero A (fun i (b : List (Int × Nat × List Int) × List (Int × Int) × List AObj) => ⟨[(5, .ptr 3 0 0), (27, .view (A.map Cel.c)), (28, .int .i64 A.length), (29, .int .i64 i)], o0 :: .imap (b.1.map (im wAV)) :: .imap (b.2.1.map ie) :: .rows 3 [[na, .map 1, .map 2]] :: b.2.2⟩)
      (fun i b r => (HD b.2.2 b.1 i ∧ ∀ n, 0 ≤ Gr.lvOf b.2.1 n ∧ Gr.lvOf b.2.1 n ≤ i) ∧ r.foldl (fun m a => if Gr.val N a = true then mput m a.From (Gr.toGet m a.From ++ [a.To]) else m) (toOf b.1) = Gr.ofTo N A ∧ r.foldl (fun m a => if Gr.val N a = true then mput m a.To (Gr.lvOf m a.To + 1) else m) b.2.1 = Gr.ofFr N A) ([], [], []) (fun i b r hi hG => ?_) ?_ ?_ (fun i a r b hi ha hd hG => ?_) fun b hG => ?_
    · obtain ⟨m, fr, D⟩ := b
      refine ⟨Nat.zero_le _, ?_⟩
      obtain ⟨⟨h1, h2⟩, h3, h4⟩ := hG
      simp only at h1
      simp [lowS, hlo, hln]
      refine ⟨fun a b x j l hm he => ?_, fun o ho => clD_low (h1.cl o ho)⟩
      have hg := mget_mem h1.once hm
      obtain ⟨g1, g2, g3⟩ := h1.obj x j l hg
      have := (List.getElem?_eq_some_iff.1 g2).1
      simp only [im, wAV, Prod.mk.injEq] at he
      rw [← he.2]
      exact .sl ⟨rfl, by omega⟩
    · simp
    · exact ⟨⟨⟨fun k j l h => by simp [mget] at h, fun k k' j l l' h => by simp [mget] at h, by simp, by simp [Hp.Once]⟩, fun n => by simp [Gr.lvOf, mget]⟩, rfl, rfl⟩
    · obtain ⟨m, fr, D⟩ := b
      obtain ⟨⟨h1, h2⟩, h3, h4⟩ := hG
      simp only at h1 h2 h3 h4
      have h2t := h2 a.To
      by_cases hv : a.From ∈ N ∧ a.To ∈ N
      · obtain ⟨hv1, hv2⟩ := hv
        have hvv : Gr.val N a = true := by simp [Gr.val, hv1, hv2]
        simp only [List.foldl_cons, hvv, if_true] at h3 h4
        have h3g := toOf_get m a.From
        have hlv : ∀ k, (mget fr k).getD 0 = Gr.lvOf fr k := fun _ => rfl
        cases hg : mget m a.From with
        | none =>
          have ga := aput_im wAV m a.From (D.length + 1 + 1 + 1 + 1 + 1, [a.To])
          simp only [wAV, List.length_cons, List.length_nil, Nat.zero_add] at ga
          simp [hi, ha, webP, webN, hok, hu, hnb, hN, hv1, hv2, hg, vcLoose, heapsOf, ga, hlv]
          refine ⟨by omega, by omega, mput m a.From (D.length + 1 + 1 + 1 + 1 + 1, [a.To]), mput fr a.To (Gr.lvOf fr a.To + 1), D ++ [.rows 2 [[.int .i64 a.From, .int .i64 a.To]], .rows 1 [[.int .i64 a.To]]], ⟨seenOb_self _, seenOb_self _, seenH_self _⟩, ⟨h1.put (by omega) (by simp) (by simp) (fun k' j' l' hne hg' => ?_) fun o ho => ?_, lv_more h2⟩, ?_, h4⟩
          · obtain ⟨g1, g2, g3⟩ := h1.obj _ _ _ hg'
            have := (List.getElem?_eq_some_iff.1 g2).1
            exact ⟨by omega, List.getElem?_append_left this⟩
          · rcases List.mem_append.1 ho with h | h
            · exact h1.cl o h
            · simp at h
              rcases h with rfl | rfl
              · exact clD_pair _ _
              · exact clD_ints 1 [a.To]
          · rw [toOf_put]
            rw [← h3]
            simp [Gr.toGet, h3g, hg]
        | some e =>
          obtain ⟨j, l⟩ := e
          obtain ⟨g1, g2, g3⟩ := h1.obj _ _ _ hg
          obtain ⟨d, rfl⟩ : ∃ d, j = d + 4 := ⟨j - 4, by omega⟩
          simp only [Nat.add_sub_cancel] at g2
          have hd' := (List.getElem?_eq_some_iff.1 g2).1
          have g4 : ∀ x : AObj, (D ++ [x])[d]? = some (.rows 1 (l.map Cel.c)) := fun x => by rw [List.getElem?_append_left hd']; exact g2
          have g5 : ∀ (x : AObj) h, ((D ++ [x]).set d .dead)[D.length]'h = x := fun x h => by
            rw [List.getElem_set_ne (by omega)]; simp
          have ga := aput_im wAV m a.From (D.length + 1 + 1 + 1 + 1 + 1, l ++ [a.To])
          simp only [wAV, List.length_append, List.length_cons, List.length_nil, Nat.zero_add] at ga
          simp [hi, ha, webP, webN, hok, hu, hnb, hN, hv1, hv2, hg, vcLoose, heapsOf, wAV, g4, g5, ga, hlv]
          refine ⟨by omega, by omega, by omega, mput m a.From (D.length + 1 + 1 + 1 + 1 + 1, l ++ [a.To]), mput fr a.To (Gr.lvOf fr a.To + 1), (D ++ [AObj.rows 2 [[.int .i64 a.From, .int .i64 a.To]]]).set d AObj.dead ++ [AObj.rows 1 (l.map Cel.c ++ [[.int .i64 a.To]])], ⟨seenOb_self _, seenOb_self _, seenH_self _⟩, ⟨h1.put (by omega) ?_ (by simp; omega) (fun k' j' l' hne hg' => ?_) fun o ho => ?_, lv_more h2⟩, ?_, h4⟩
          · rw [List.getElem?_append_right (by simp)]
            simp
          · obtain ⟨g1', g2', g3'⟩ := h1.obj _ _ _ hg'
            have hlt := (List.getElem?_eq_some_iff.1 g2').1
            have hjd : j' ≠ d + 4 := fun e => hne (h1.inj _ _ _ _ _ (by rw [hg', e]) hg)
            refine ⟨by omega, ?_⟩
            rw [List.getElem?_append_left (by simp; omega), List.getElem?_set_ne (by omega), List.getElem?_append_left hlt]
          · rcases List.mem_append.1 ho with h | h
            · rcases List.mem_or_eq_of_mem_set h with h | rfl
              · rcases List.mem_append.1 h with h | h
                · exact h1.cl o h
                · rw [List.mem_singleton.1 h]; exact clD_pair _ _
              · trivial
            · rw [List.mem_singleton.1 h]
              have := clD_ints 1 (l ++ [a.To])
              simpa using this
          · rw [toOf_put, ← h3]
            simp [Gr.toGet, h3g, hg]
      · have hvv : ¬ Gr.val N a = true := by simpa [Gr.val] using hv
        simp only [List.foldl_cons, hvv, if_false] at h3 h4
        have out := h1.more (clD_pair a.From a.To)
        have out2 : ∀ n, 0 ≤ Gr.lvOf fr n ∧ Gr.lvOf fr n ≤ (i : Int) + 1 := fun n => by have := h2 n; omega
        by_cases hv1 : a.From ∈ N
        · have hv2 : a.To ∉ N := fun h => hv ⟨hv1, h⟩
          simp [hi, ha, webP, webN, hok, hu, hnb, hN, hv1, hv2]
          exact ⟨by omega, m, fr, _, ⟨seenOb_self _, seenOb_self _, seenH_self _⟩, ⟨out, out2⟩, h3, h4⟩
        · simp [hi, ha, webP, webN, hok, hu, hnb, hN, hv1]
          exact ⟨by omega, m, fr, _, ⟨seenOb_self _, seenOb_self _, seenH_self _⟩, ⟨out, out2⟩, h3, h4⟩
    · obtain ⟨m, fr, D⟩ := b
      obtain ⟨⟨h1, h2⟩, h3, h4⟩ := hG
      simp
      exact ⟨m, fr, D, o0, na, ⟨rfl, rfl, rfl, rfl, rfl⟩, ⟨rfl, hx⟩, h1, h3, h4⟩
  · rintro e s ⟨he, hr, ho, m, fr, D, o0, na, hh, ⟨hna, x, hx⟩, hd, hm, hf⟩
    have key : fin 0 rs_graph_of (fun y h => y = .ptr 0 0 0 ∧ h = webS (comp (sorted ids)) (Gr.ofTo (comp (sorted ids)) A) (Gr.ofFr (comp (sorted ids)) A)) .normal s := ⟨hr, .ptr 0 0 0, _, by
      rw [ho]
      refine Shed.weakR (g := [3, 1, 2]) ⟨rfl, by simp, fun j hj => by omega, fun i j k hi hj => ?_, fun j i o' hj ho' _ => ?_⟩ (.ptr (byG_mk rfl))
      · rcases get3 hi with ⟨rfl, rfl⟩ | ⟨rfl, rfl⟩ | ⟨rfl, rfl⟩ <;> rcases get3 hj with ⟨rfl, h⟩ | ⟨rfl, h⟩ | ⟨rfl, h⟩ <;> first | rfl | omega
      · have nog : ∀ i, i ≠ 1 → i ≠ 2 → i ≠ 3 → ∀ j, ¬ byG [3, 1, 2] i j := fun i h1 h2 h3 j h => by
          rcases get3 h with ⟨_, e⟩ | ⟨_, e⟩ | ⟨_, e⟩ <;> omega
        rcases get3 hj with ⟨rfl, rfl⟩ | ⟨rfl, rfl⟩ | ⟨rfl, rfl⟩
        · simp only [webS, List.getElem?_cons_zero, Option.some.injEq] at ho'; subst ho'
          refine ⟨_, by rw [hh]; rfl, seenO_row3 ?_ (.map (byG_mk rfl)) (.map (byG_mk rfl))⟩
          rw [hna]
          exact seen_ow (x := x) (by rw [hh, hx]; rfl) (nog 0 (by omega) (by omega) (by omega))
        · simp only [webS, List.getElem?_cons_succ, List.getElem?_cons_zero, Option.some.injEq] at ho'; subst ho'
          refine ⟨_, by rw [hh]; rfl, .imap (by rw [← hm]; simp [toOf]) fun i a b h1 h2 => ?_⟩
          rw [← hm] at h2
          simp only [toOf, List.getElem?_map, Option.map_eq_some_iff] at h1 h2
          obtain ⟨e, e1, rfl⟩ := h1
          obtain ⟨e', ⟨e'', e2, rfl⟩, rfl⟩ := h2
          rw [e1] at e2; cases e2
          refine ⟨rfl, ?_⟩
          obtain ⟨g1, g2, g3⟩ := hd.obj e.1 e.2.1 e.2.2 (mget_mem hd.once (List.mem_of_getElem? e1))
          refine seen_fz (x := []) (sz := 1) ?_ (nog _ (by omega) (by omega) (by omega))
          rw [hh, List.getElem?_append_right (by simpa using g1), List.append_nil]
          exact g2
        · simp only [webS, List.getElem?_cons_succ, List.getElem?_cons_zero, Option.some.injEq] at ho'; subst ho'
          rw [← hf]
          exact ⟨_, by rw [hh]; rfl, seenO_ie _⟩, rfl, rfl⟩
    rcases he with rfl | rfl <;> exact key
/-- A web, made. -/
def cOf : Ctr := ⟨fun a H => match a with
  | [a, b] => (okA (List Int) [] a ∧ okA (List Arc) [] b) ∧ (de (List Int) [] a).length ≤ 1073741824 ∧ (de (List Arc) [] b).length ≤ 1073741823
  | _ => False, fun a H => .ptr H.length 0 0, fun a H => match a with
  | [a, b] => H ++ [.rows 3 [[.view ((comp (sorted (de (List Int) [] a))).map Cel.c), .map (H.length + 1), .map (H.length + 2)]], .imap ((Gr.ofTo (comp (sorted (de (List Int) [] a))) (de (List Arc) [] b)).map (im fun l => .view (l.map Cel.c))), .imap ((Gr.ofFr (comp (sorted (de (List Int) [] a))) (de (List Arc) [] b)).map ie)]
  | _ => H⟩
@[simp] theorem cOf_pre (a b : AV) (H : List AObj) : cOf.pre [a, b] H = ((okA (List Int) [] a ∧ okA (List Arc) [] b) ∧ (de (List Int) [] a).length ≤ 1073741824 ∧ (de (List Arc) [] b).length ≤ 1073741823) := rfl
@[simp] theorem cOf_val (a : List AV) (H : List AObj) : cOf.val a H = .ptr H.length 0 0 := rfl
@[simp] theorem cOf_hp (a b : AV) (H : List AObj) : cOf.hp [a, b] H = H ++ [.rows 3 [[.view ((comp (sorted (de (List Int) [] a))).map Cel.c), .map (H.length + 1), .map (H.length + 2)]], .imap ((Gr.ofTo (comp (sorted (de (List Int) [] a))) (de (List Arc) [] b)).map (im fun l => .view (l.map Cel.c))), .imap ((Gr.ofFr (comp (sorted (de (List Int) [] a))) (de (List Arc) [] b)).map ie)] := rfl
theorem shv_im (n : Nat) (f : List Int → AV) (hf : ∀ l, shv 2 n (f l) = f l) (m : List (Int × List Int)) : (m.map (im f)).map (fun e => (e.1, shv 2 n e.2)) = m.map (im f) := by
  rw [List.map_map]
  exact List.map_congr_left fun e _ => by simp [im, hf]
theorem shv_ie (n : Nat) (m : List (Int × Int)) : (m.map ie).map (fun e => (e.1, shv 2 n e.2)) = m.map ie := by
  rw [List.map_map]
  exact List.map_congr_left fun e _ => by simp [ie, shv]
theorem known_Of : Known Try.prog 207 cOf := fun args H hp => by
  match args, hp with
  | [a, b], ⟨⟨h1, h2⟩, h3, h4⟩ =>
    have hd := Det.own (det_of _ _ h3 h4) (each_cons (okA_seen h1) (each_cons (okA_seen h2) each_nil)) (by simp [lowD, webS]) (fun o ho => by
      simp only [webS, List.mem_cons, List.mem_nil_iff, or_false] at ho
      rcases ho with rfl | rfl | rfl
      · simp [lowOD, lowD, allR, allC, webS]
      · intro e he
        simp only [List.mem_map] at he
        obtain ⟨x, _, rfl⟩ := he
        exact closed_viewc x.2
      · intro e he
        simp only [List.mem_map] at he
        obtain ⟨x, _, rfl⟩ := he
        exact .int _ _) H
    have e1 : ∀ l : List Int, shv 2 H.length (.view (l.map Cel.c)) = .view (l.map Cel.c) := fun l => rfl
    simp only [webS, List.map_cons, List.map_nil, shO, shv_im H.length (fun l => .view (l.map Cel.c)) e1, shv_ie] at hd
    exact hd
end Go.Proofs.Ytnjpfoblmomnlaa.Sx
/- Package graph: nodes told in order, by the closure of Order. No conditions: a kit of our own. -/
namespace Go.Proofs.Ytnjpfoblmomnlaa.Sx
open Go Go.RowKit
open Hp (mget mput mdel HpS)
set_option linter.unusedVariables false
set_option linter.unusedSimpArgs false

def toldO (N : List Int) (A : List Arc) : List Int := Gr.seqO N A N.length []
theorem told_eq {N : List Int} {A : List Arc} {done : List (Int × Int)} {s : Gr.OrS} (h : Gr.GInv N A done s) (hn : s.h.1 = []) : done.map (·.1) = toldO N A := by
  have hl := Gr.ginv_len h
  have h1 := h.seq (N.length - done.length)
  have h2 := (Gr.ord_end h hn).1
  rw [Gr.gseq_end h2, List.append_nil] at h1
  have : N.length - done.length + (done.map (·.1)).length = N.length := by simp; omega
  rw [this] at h1
  exact h1.symm
/-- A slice of things, none or one's own. -/
def hsl (f q n : Nat) : AV := match f with
  | 0 => .nils
  | _ + 1 => .sl q 0 n
def hob (f sz : Nat) (rs : List (List AV)) : AObj := match f with
  | 0 => .dead
  | _ + 1 => .rows sz rs
@[simp] theorem hsl_zero (q n : Nat) : hsl 0 q n = .nils := rfl
@[simp] theorem hsl_succ (f q n : Nat) : hsl (f + 1) q n = .sl q 0 n := rfl
@[simp] theorem hob_zero (sz : Nat) (rs : List (List AV)) : hob 0 sz rs = .dead := rfl
@[simp] theorem hob_succ (f sz : Nat) (rs : List (List AV)) : hob (f + 1) sz rs = .rows sz rs := rfl
@[simp high] theorem rnO_ie (d : Nat) (g : List Nat) (m : List (Int × Int)) : rnO d g (.imap (m.map ie)) = .imap (m.map ie) := by
  simp only [rnO, List.map_map]
  congr 1
  exact List.map_congr_left fun e _ => by cases d <;> rfl
@[simp high] theorem lowOD_ie (d k : Nat) (m : List (Int × Int)) : lowOD d k (.imap (m.map ie)) = True := eq_true fun e he => by
  obtain ⟨x, _, rfl⟩ := List.mem_map.1 he
  cases d <;> exact .int _ _
@[simp high] theorem rnO_vto (d : Nat) (g : List Nat) (to : List (Int × List Int)) : rnO d g (.imap (to.map (im fun l => .view (l.map Cel.c)))) = .imap (to.map (im fun l => .view (l.map Cel.c))) := by
  simp only [rnO, List.map_map]
  congr 1
  exact List.map_congr_left fun e _ => by cases d <;> rfl
@[simp high] theorem lowOD_vto (d k : Nat) (to : List (Int × List Int)) : lowOD d k (.imap (to.map (im fun l => .view (l.map Cel.c)))) = True := eq_true fun e he => by
  obtain ⟨x, _, rfl⟩ := List.mem_map.1 he
  cases d <;> exact closed_viewc x.2
theorem cvw (N : List Int) : Closed (.view (N.map Cel.c)) = True := eq_true (closed_viewc N)
section
variable {α : Type} [Cel α]
@[simp] theorem bslP_bs {H : List AObj} {b q : Nat} {l : List α} (hq : H[q]? = some (bob (Cel.n α) (l.map Cel.c))) (hne : b ≠ q) : bslP α H b (bs q (l.map Cel.c)) = True := by
  cases l with
  | nil => rfl
  | cons x l =>
    have hr : rowsOf H q = (x :: l).map Cel.c := by simp only [rowsOf, hq, rowsO_bob]
    have h1 : isRows H q := by simp [isRows, hq]
    have h2 : szOf H q = Cel.n α := by simp [szOf, hq, szO]
    refine eq_true ⟨rfl, hne, h1, h2, by rw [hr]; simp, fun row hrow => ?_⟩
    rw [hr] at hrow
    obtain ⟨y, _, rfl⟩ := List.mem_map.1 hrow
    exact Cel.ok_c [] y
@[simp] theorem bslV_bs {H : List AObj} {q : Nat} {l : List α} (hq : H[q]? = some (bob (Cel.n α) (l.map Cel.c))) : bslV α H (bs q (l.map Cel.c)) = l := by
  cases l with
  | nil => rfl
  | cons x l =>
    have hr : rowsOf H q = (x :: l).map Cel.c := by simp only [rowsOf, hq, rowsO_bob]
    show (rowsOf H q).map (Cel.u []) = _
    rw [hr, List.map_map]
    exact map_self fun y _ => Cel.u_c [] y
@[simp] theorem boxN1_bs {H : List AObj} {b q : Nat} {l y : List α} (hq : H[q]? = some (bob (Cel.n α) (l.map Cel.c))) (hne : b ≠ q) : boxN1 H y b (bs q (l.map Cel.c)) = (H.set b (.rows 1 [[.sl H.length 0 y.length]])).set q .dead ++ [.rows (Cel.n α) (y.map Cel.c)] := by
  cases l with
  | nil =>
    show H.set b _ ++ _ = _
    rw [set_same (l := H.set b _) (i := q) (a := AObj.dead)]
    rw [List.getElem?_set_ne hne]; exact hq
  | cons x l => rfl
end
def decr (fr : List (Int × Int)) (to : Int) : List (Int × Int) := mput fr to (Gr.lvOf fr to - 1)
def relFr (N : List Int) (A : List Arc) (told : List Int) : List (Int × Int) := told.foldl (fun fr n => (Gr.tosL N A n).foldl decr fr) (Gr.ofFr N A)
theorem relFr_snoc (N : List Int) (A : List Arc) (told : List Int) (n : Int) : relFr N A (told ++ [n]) = (Gr.tosL N A n).foldl decr (relFr N A told) := by simp [relFr]
theorem cnt_le (N : List Int) (A : List Arc) (told : List Int) (n : Int) : Gr.cntL N A told n ≤ A.length := List.length_filter_le _ _
theorem lev_bound (A : List Arc) (d : List (Int × Int)) (h : ∀ x ∈ d, 0 ≤ x.2 ∧ x.2 < d.length) (n : Int) : 0 ≤ Gr.levR A d n ∧ Gr.levR A d n ≤ d.length := by
  have key : ∀ (e : List (Int × Int)) (v : Int), (∀ x ∈ e, 0 ≤ x.2 ∧ x.2 < d.length) → 0 ≤ v → v ≤ d.length → 0 ≤ e.foldl (fun v d => A.foldl (fun v a => if a.From = d.1 ∧ a.To = n then max v (d.2 + 1) else v) v) v ∧ e.foldl (fun v d => A.foldl (fun v a => if a.From = d.1 ∧ a.To = n then max v (d.2 + 1) else v) v) v ≤ d.length := fun e => by
    induction e with
    | nil => intro v _ h1 h2; exact ⟨h1, h2⟩
    | cons x e ih =>
      intro v he h1 h2
      simp only [List.foldl_cons]
      rw [Gr.fold_max]
      have := he x (by simp)
      refine ih _ (fun y hy => he y (List.mem_cons_of_mem _ hy)) ?_ ?_ <;> split <;> omega
  exact key d 0 h (Int.le_refl _) (by omega)
theorem doneOf_bound (A : List Arc) : ∀ (told : List Int) (d : List (Int × Int)), (∀ x ∈ d, 0 ≤ x.2 ∧ x.2 < d.length) → ∀ x ∈ told.foldl (fun d n => d ++ [(n, Gr.levR A d n)]) d, 0 ≤ x.2 ∧ x.2 < (d.length + told.length : Nat) := fun told => by
  induction told with
  | nil => intro d h x hx; have := h x hx; simpa using this
  | cons n told ih =>
    intro d h x hx
    simp only [List.foldl_cons] at hx
    have hb := lev_bound A d h n
    have := ih (d ++ [(n, Gr.levR A d n)]) (fun y hy => by
      rcases List.mem_append.1 hy with hy | hy
      · have := h y hy; simp; omega
      · rw [List.mem_singleton.1 hy]; simp; omega) x hx
    simp at this ⊢; omega
abbrev vto (to : List (Int × List Int)) : AObj := .imap (to.map (im fun l => .view (l.map Cel.c)))
theorem ginv_bound {N : List Int} {A : List Arc} {done : List (Int × Int)} {s : Gr.OrS} (h : Gr.GInv N A done s) : ∀ x ∈ done, 0 ≤ x.2 ∧ x.2 < done.length := fun x hx => by
  have e := h.dn
  rw [e] at hx
  unfold Gr.doneOf at hx
  have := doneOf_bound A (done.map fun x => x.1) [] (by simp) x hx
  simpa using this
theorem heap_len {N : List Int} {h : HpS} (hp : Hp.HpOk h) (hs : ∀ y, Hp.Mem h.1 y → y.Id ∈ N) : h.1.length ≤ N.length := by
  have := Gr.nodup_len (a := h.1.map (·.Id)) (N := N) (by
    rw [List.Nodup, List.pairwise_iff_getElem]
    intro i j hi hj hij e
    simp at hi hj e
    have := Hp.At.inj hp.at_ hi hj (by simp only [Hp.gt, nth_get hi, nth_get hj]; exact e)
    omega) fun x hx => by
    obtain ⟨y, hy, rfl⟩ := List.mem_map.1 hx
    obtain ⟨j, hj, e⟩ := List.mem_iff_getElem.1 hy
    exact hs y ⟨j, hj, by simp only [Hp.gt, nth_get hj]; exact e⟩
  simpa using this
theorem mx_max (x y : Int) : (if x < y then y else x) = max x y := by split <;> omega
theorem get5 {a b c d f : Nat} {j i : Nat} (h : [a, b, c, d, f][j]? = some i) : (j = 0 ∧ i = a) ∨ (j = 1 ∧ i = b) ∨ (j = 2 ∧ i = c) ∨ (j = 3 ∧ i = d) ∨ (j = 4 ∧ i = f) := by
  match j with
  | 0 => simp at h; exact .inl ⟨rfl, h.symm⟩
  | 1 => simp at h; exact .inr (.inl ⟨rfl, h.symm⟩)
  | 2 => simp at h; exact .inr (.inr (.inl ⟨rfl, h.symm⟩))
  | 3 => simp at h; exact .inr (.inr (.inr (.inl ⟨rfl, h.symm⟩)))
  | 4 => simp at h; exact .inr (.inr (.inr (.inr ⟨rfl, h.symm⟩)))
  | j + 5 => simp at h
theorem seen_bs {H : List AObj} {R : Nat → Nat → Prop} {i j : Nat} {rs : List (List AV)} (h : R i j) : Seen H R (bs i rs) (bs j rs) := by
  cases rs with
  | nil => exact .nils
  | cons r rs => exact .sl h
theorem seenO_vto {H : List AObj} {R : Nat → Nat → Prop} (to : List (Int × List Int)) : SeenO H R (vto to) (vto to) := .imap rfl fun i a b h1 h2 => by
  rw [h1] at h2; cases h2
  have := List.mem_of_getElem? h1
  simp only [List.mem_map] at this
  obtain ⟨x, _, rfl⟩ := this
  exact ⟨rfl, (closed_viewc x.2).seen _ _⟩
def oH (N : List Int) (to : List (Int × List Int)) (fr : List (Int × Int)) : List AObj := [.rows 1 [[.nils]], .rows 3 [[.view (N.map Cel.c), .map 2, .map 3]], vto to, .imap (fr.map ie)]
def oH1 (N : List Int) (to : List (Int × List Int)) (fr : List (Int × Int)) (out : List Int) : List AObj := [.rows 1 [[bs 4 (out.map Cel.c)]], .rows 3 [[.view (N.map Cel.c), .map 2, .map 3]], vto to, .imap (fr.map ie), bob 1 (out.map Cel.c)]
theorem det_order_O (N : List Int) (A : List Arc) (to : List (Int × List Int)) (hto : ∀ n, Gr.toGet to n = Gr.tosL N A n) (hN : N.Pairwise (· < ·)) (hl : N.length ≤ 1073741823) (hA : A.length ≤ 1073741823) :
    Det Try.prog 208 [.ptr 1 0 0, .fn 209 [] [.ptr 0 0 0]] (oH N to (Gr.ofFr N A)) (.tup []) (oH1 N to (relFr N A (toldO N A)) (toldO N A)) := by
  refine acall_of_vcQ mixed0 (knows_cons known_Hnew (knows_cons known_Hput (knows_cons known_Hpop (knows_cons known_Order_1 knows_nil)))) ok_graph_web_order (by simp) (Q := fun e s => (e = .ret ∨ e = .normal) ∧ s.hp[0]? = some (.rows 1 [[bs 8 ((toldO N A).map Cel.c)]]) ∧ s.hp[1]? = some (.rows 3 [[.view (N.map Cel.c), .map 2, .map 3]]) ∧ s.hp[2]? = some (vto to) ∧ s.hp[3]? = some (.imap ((relFr N A (toldO N A)).map ie)) ∧ s.hp[8]? = some (bob 1 ((toldO N A).map Cel.c))) ?_ ?_
  · simp [ic_graph_web_order, rs_graph_web_order, cHnew, oH]
    refine BackC.genR (fun b : (List (Int × Int) × Gr.OrS) × (Nat × List Int) => ⟨[(0, .ptr 1 0 0), (1, .fn 209 [] [.ptr 0 0 0]), (4, .ptr 4 0 0), (5, .map 6)],
      [.rows 1 [[bs 8 (b.2.2.map Cel.c)]], .rows 3 [[.view (N.map Cel.c), .map 2, .map 3]], vto to, .imap (b.1.2.fr.map ie), .rows 2 [[hsl b.2.1 7 b.1.2.h.1.length, .map 5]], .imap (b.1.2.h.2.map ie), .imap (b.1.2.lv.map ie), hob b.2.1 3 (b.1.2.h.1.map Cel.c), bob 1 (b.2.2.map Cel.c)]⟩)
      (fun b => Gr.GInv N A b.1.1 b.1.2 ∧ (b.2.1 = 0 → b.1.2.h.1 = []) ∧ b.2.2 = b.1.1.map (·.1) ∧ b.1.2.fr = relFr N A (b.1.1.map (·.1))) (fun b => N.length - b.1.1.length) ?_ ?_
    · simp
      refine LoopC.scanR 0 N (fun i (b : Nat × HpS) => ⟨[(0, .ptr 1 0 0), (1, .fn 209 [] [.ptr 0 0 0]), (4, .ptr 4 0 0), (5, .map 6), (17, .view (N.map Cel.c)), (18, .int .i64 N.length), (19, .int .i64 i)],
        [.rows 1 [[.nils]], .rows 3 [[.view (N.map Cel.c), .map 2, .map 3]], vto to, .imap ((Gr.ofFr N A).map ie), .rows 2 [[hsl b.1 7 b.2.1.length, .map 5]], .imap (b.2.2.map ie), .imap [], hob b.1 3 (b.2.1.map Cel.c)]⟩)
        (fun i b r => Gr.Ini (Gr.ofFr N A) (N.take i) b.2 ∧ (b.1 = 0 → b.2.1 = [])) (0, ([], [])) [0, 1, 2, 3, 4, 5, 6, 7] (by simp [atR, gOk, cvw]; decide) ⟨Gr.ini_nil _, fun _ => rfl⟩ (fun i a r b hi ha hd hG => ?_) fun b hG => ?_
      · obtain ⟨f, h⟩ := b
        obtain ⟨h1, h2⟩ := hG
        simp only at h1 h2
        have hnt : a ∉ N.take i := fun hm => by
          obtain ⟨k, hk, e⟩ := List.mem_iff_getElem.1 hm
          simp at hk e
          have := rise_nth hN (i := k) (j := i) (by omega) hi
          rw [ha, nth_get (by omega), e] at this
          omega
        have hs := Gr.ini_step h1 hnt
        have htk : N.take (i + 1) = N.take i ++ [a] := by rw [take_nth hi, ha]
        have hlen := h1.len
        have hml : (N.take i).length ≤ i := by simp; omega
        by_cases h0 : Gr.lvOf (Gr.ofFr N A) a = 0
        · rw [if_pos h0] at hs
          have hnew : mget h.2 a = none := Hp.mget_none.2 fun hk => by
            obtain ⟨j, hj, e⟩ := h1.hp.at_.key _ hk
            exact hnt ((h1.rd a).1 ⟨_, ⟨j, hj, rfl⟩, e⟩).1
          have hlv : (mget (Gr.ofFr N A) a).getD 0 = 0 := h0
          have hb : h.1.length ≤ 1073741823 := by omega
          cases f with
          | zero =>
            have hnil := h2 rfl
            obtain ⟨ha', hm'⟩ := h
            simp only at hnil
            subst hnil
            simp [hi, ha, hlv, cHput, hpA, hpR, hnew]
            refine ⟨by omega, 1, (Hp.putF ([], hm') ⟨a, 0, a⟩).1.1, (Hp.putF ([], hm') ⟨a, 0, a⟩).1.2, ⟨[0, 1, 2, 3, 4, 5, 6, 8], by simp [atR, gOk, cvw]; decide⟩, by rw [htk]; exact hs, by simp⟩
          | succ f =>
            obtain ⟨ha', hm'⟩ := h
            simp [hi, ha, hlv, cHput, hpA, hpR, hnew]
            refine ⟨by simpa using hb, by omega, 1, (Hp.putF (ha', hm') ⟨a, 0, a⟩).1.1, (Hp.putF (ha', hm') ⟨a, 0, a⟩).1.2, ⟨[0, 1, 2, 3, 4, 5, 6, 8], by simp [atR, gOk, cvw]; decide⟩, by rw [htk]; exact hs, by simp⟩
        · rw [if_neg h0] at hs
          have hlv : ¬ (mget (Gr.ofFr N A) a).getD 0 = 0 := h0
          simp [hi, ha, hlv]
          cases f with
          | zero => exact ⟨by omega, 0, h.1, h.2, ⟨[0, 1, 2, 3, 4, 5, 6, 7], by simp [atR, gOk, cvw]; decide⟩, by rw [htk]; exact hs, h2⟩
          | succ f => exact ⟨by omega, 1, h.1, h.2, ⟨[0, 1, 2, 3, 4, 5, 6, 7], by simp [atR, gOk, cvw]; decide⟩, by rw [htk]; exact hs, by simp⟩
      · obtain ⟨f, h⟩ := b
        obtain ⟨h1, h2⟩ := hG
        simp only at h1 h2
        rw [List.take_length] at h1
        simp
        cases f with
        | zero => exact ⟨[], ⟨h, Gr.ofFr N A, []⟩, 0, [], ⟨[0, 1, 2, 3, 4, 5, 6, 7, 8], by simp [atR, gOk, cvw]; decide⟩, Gr.ginv_begin h1, h2, rfl, rfl⟩
        | succ f => exact ⟨[], ⟨h, Gr.ofFr N A, []⟩, 1, [], ⟨[0, 1, 2, 3, 4, 5, 6, 7, 8], by simp [atR, gOk, cvw]; decide⟩, Gr.ginv_begin h1, by simp, rfl, rfl⟩
    · rintro ⟨⟨done, ⟨a, m⟩, fr, lv⟩, f, out⟩ ⟨h1, h2, h3, h4⟩
      simp only at h1 h2 h3 h4
      have hdl := Gr.ginv_len h1
      have hhl : a.length ≤ 1073741823 := by
        have := heap_len (N := N) h1.hp fun y hy => ((h1.rd y.Id).1 ⟨y, hy, rfl⟩).1
        simp only at this
        omega
      have hok : ∀ k, (k = 0 → a = []) → hdok k (a, m) := fun k hk => ⟨⟨hk, by show a.length ≤ _; omega⟩, h1.hp⟩
      by_cases hne : a = []
      · have hp := Hp.pop_nil (a, m) hne
        have ht := told_eq h1 hne
        rw [ht] at h3 h4
        subst hne
        cases f with
        | zero =>
          simp [cHpop, hpA, hpR, hp, hok 0 h2, h3, h4]
        | succ f =>
          simp [cHpop, hpA, hpR, hp, hok 1 (by simp), h3, h4]
      · obtain ⟨n, p1, p2, p3, p4, p5, p6, p7, p8⟩ := Gr.ord_step hN h1 hne
        cases f with
        | zero => exact absurd (h2 rfl) hne
        | succ f =>
          simp only at p1 p8
          have hol : out.length ≤ 1073741823 := by rw [h3]; simp; omega
          have hlb := ginv_bound h1
          have hlv := lev_bound A done hlb n
          have hln : Gr.lvOf lv n = Gr.levR A done n := h1.lv n p2
          have htl := Gr.tosL_len N A n
          have hts := hto n
          have fin : ∀ c : Gr.OrS, Gr.Mid N A done n (Gr.lvOf lv n) [] c → c.fr = (Gr.tosL N A n).foldl decr fr → (Gr.GInv N A (done ++ [(n, Gr.lvOf lv n)]) c ∧ c.fr = relFr N A ((done ++ [(n, Gr.lvOf lv n)]).map (·.1))) := fun c hc hf => ⟨Gr.ord_fin h1 p2 p3 p6 p7 hln hc, by
            rw [hf, h4]; simp [relFr_snoc]⟩
          have hdl' : done.length < N.length := by
            have := Gr.nodup_len (a := n :: done.map (·.1)) (N := N) (List.nodup_cons.2 ⟨p6, h1.nd⟩) fun x hx => by
              rcases List.mem_cons.1 hx with e | e
              · rw [e]; exact p2
              · exact h1.sub x e
            simp at this; omega
          cases hg : mget to n with
          | none =>
            have hnil : Gr.tosL N A n = [] := by rw [← hts]; simp [Gr.toGet, hg]
            rw [hnil] at p8
            obtain ⟨f1, f2⟩ := fin _ p8 (by rw [hnil]; rfl)
            simp [cHpop, hpA, hpR, p1, hok 1 (by simp), boxA, hol, hg]
            refine LoopC.scanR (0 : Int) ([] : List Int) (fun i (b : Unit) => ⟨[(0, .ptr 1 0 0), (1, .fn 209 [] [.ptr 0 0 0]), (4, .ptr 4 0 0), (5, .map 6), (8, .int .i64 n), (53, .nils), (54, .int .i64 0), (55, .int .i64 i)],
              [.rows 1 [[.sl 8 0 (out.length + 1)]], .rows 3 [[.view (N.map Cel.c), .map 2, .map 3]], vto to, .imap (fr.map ie), .rows 2 [[.sl 7 0 (Hp.popF (a, m)).1.1.length, .map 5]], .imap ((Hp.popF (a, m)).1.2.map ie), .imap (lv.map ie), .rows 3 ((Hp.popF (a, m)).1.1.map Cel.c), .rows 1 (out.map Cel.c ++ [[.int .i64 n]])]⟩)
              (fun i b r => True) () [0, 1, 2, 3, 4, 5, 6, 7, 9] (by simp [atR, gOk, cvw]; decide) trivial (fun i a r b hi => by simp at hi) fun b hG => ?_
            simp
            refine ⟨done ++ [(n, Gr.lvOf lv n)], ⟨(Hp.popF (a, m)).1, fr, lv⟩, 1, out ++ [n], ⟨[0, 1, 2, 3, 4, 5, 6, 7, 8], by simp [atR, gOk, cvw]; decide⟩, ⟨f1, by simp, by simp [h3], f2⟩, by simp; omega⟩
          | some L =>
            obtain rfl : L = Gr.tosL N A n := by rw [← hts]; simp [Gr.toGet, hg]
            generalize hL : Gr.tosL N A n = L at *
            simp [cHpop, hpA, hpR, p1, hok 1 (by simp), boxA, hol, hg]
            refine LoopC.scanR (0 : Int) L (fun i (c : Gr.OrS) => ⟨[(0, .ptr 1 0 0), (1, .fn 209 [] [.ptr 0 0 0]), (4, .ptr 4 0 0), (5, .map 6), (8, .int .i64 n), (53, .view (L.map Cel.c)), (54, .int .i64 L.length), (55, .int .i64 i)],
              [.rows 1 [[.sl 8 0 (out.length + 1)]], .rows 3 [[.view (N.map Cel.c), .map 2, .map 3]], vto to, .imap (c.fr.map ie), .rows 2 [[.sl 7 0 c.h.1.length, .map 5]], .imap (c.h.2.map ie), .imap (c.lv.map ie), .rows 3 (c.h.1.map Cel.c), .rows 1 (out.map Cel.c ++ [[.int .i64 n]])]⟩)
              (fun i c r => (Gr.Mid N A done n (Gr.lvOf lv n) r c ∧ r.foldl decr c.fr = L.foldl decr fr) ∧ ∀ x ∈ r, x ∈ L) ⟨(Hp.popF (a, m)).1, fr, lv⟩ [0, 1, 2, 3, 4, 5, 6, 7, 9] (by simp [atR, gOk, cvw]; decide) ⟨⟨p8, rfl⟩, fun x h => h⟩ (fun i b r c hi hb hd hG => ?_) fun c hG => ?_
            · obtain ⟨⟨a', m'⟩, fr', lv'⟩ := c
              obtain ⟨⟨g1, g2⟩, g3⟩ := hG
              simp only at g1 g2
              have hbL := g3 b (by simp)
              have hbN : b ∈ N := (Gr.mem_tosL.1 (by rw [hL]; exact hbL)).2.1
              have mid := Gr.relax_mid p2 (by rw [hL]; exact p4) (by rw [hL]; exact hbL) (p5 b hbL) g1
              have hfr := g1.fr b hbN
              simp only [List.count_cons_self] at hfr
              have hc1 := cnt_le N A (done.map (·.1) ++ [n]) b
              have hc2 : r.count b ≤ r.length := List.count_le_length
              have hrl : r.length + i < L.length + 1 := by
                have := congrArg List.length hd
                simp at this; omega
              have hlb' := g1.lv b hbN
              have hlb2 := lev_bound A done hlb b
              have hln' : Gr.lvOf lv' n = Gr.lvOf lv n := g1.ln
              have hv1 : ∀ k, (mget lv' k).getD 0 = Gr.lvOf lv' k := fun _ => rfl
              have hv2 : ∀ k, (mget fr' k).getD 0 = Gr.lvOf fr' k := fun _ => rfl
              have hhl' : a'.length ≤ 1073741823 := by
                have := heap_len (N := N) g1.hp fun y hy => ((g1.rd y.Id).1 ⟨y, hy, rfl⟩).1
                simp only at this
                omega
              have hmem : Hp.HpOk (a', m') := g1.hp
              by_cases h0 : Gr.lvOf fr' b - 1 = 0
              · have hnew : mget m' b = none := Hp.mget_none.2 fun hk => by
                  obtain ⟨j, hj, e⟩ := hmem.at_.key _ hk
                  have := ((g1.rd b).1 ⟨_, ⟨j, hj, rfl⟩, e⟩).2.2.2
                  simp only [List.count_cons_self] at this
                  omega
                have er : Gr.relax n ⟨(a', m'), fr', lv'⟩ b = ⟨(Hp.putF (a', m') ⟨b, 0, b⟩).1, mput fr' b (Gr.lvOf fr' b - 1), mput lv' b (max (Gr.lvOf lv' b) (Gr.lvOf lv' n + 1))⟩ := by simp only [Gr.relax, h0, if_true]
                rw [er] at mid
                rw [h0] at mid
                simp [hi, hb, hv1, hv2, Hp.mget_put, h0, cHput, hpA, hpR, hnew, mx_max]
                refine ⟨by omega, hhl', by omega, ⟨(Hp.putF (a', m') ⟨b, 0, b⟩).1, mput fr' b 0, mput lv' b (max (Gr.lvOf lv' b) (Gr.lvOf lv' n + 1))⟩, ⟨[0, 1, 2, 3, 4, 5, 6, 9, 8], by simp [atR, gOk, cvw]; decide⟩, ⟨mid, by simpa [decr, h0] using g2⟩, fun x hx => g3 x (List.mem_cons_of_mem _ hx)⟩
              · have er : Gr.relax n ⟨(a', m'), fr', lv'⟩ b = ⟨(a', m'), mput fr' b (Gr.lvOf fr' b - 1), mput lv' b (max (Gr.lvOf lv' b) (Gr.lvOf lv' n + 1))⟩ := by simp only [Gr.relax, h0, if_false]
                rw [er] at mid
                simp [hi, hb, hv1, hv2, Hp.mget_put, h0, cHput, hpA, hpR, mx_max]
                refine ⟨by omega, by omega, by omega, ⟨(a', m'), mput fr' b (Gr.lvOf fr' b - 1), mput lv' b (max (Gr.lvOf lv' b) (Gr.lvOf lv' n + 1))⟩, ⟨[0, 1, 2, 3, 4, 5, 6, 7, 8], by simp [atR, gOk, cvw]; decide⟩, ⟨mid, by simpa [decr] using g2⟩, fun x hx => g3 x (List.mem_cons_of_mem _ hx)⟩
            · obtain ⟨⟨a', m'⟩, fr', lv'⟩ := c
              obtain ⟨⟨g1, g2⟩, g3⟩ := hG
              obtain ⟨f1, f2⟩ := fin _ g1 g2
              simp
              refine ⟨done ++ [(n, Gr.lvOf lv n)], ⟨(a', m'), fr', lv'⟩, 1, out ++ [n], ⟨[0, 1, 2, 3, 4, 5, 6, 7, 8], by simp [atR, gOk, cvw]; decide⟩, ⟨f1, by simp, by simp [h3], f2⟩, by simp; omega⟩
  · rintro e s ⟨he, q0, q1, q2, q3, q8⟩
    have key : fin (oH N to (Gr.ofFr N A)).length rs_graph_web_order (fun y h => y = .tup [] ∧ h = oH1 N to (relFr N A (toldO N A)) (toldO N A)) .normal s := ⟨trivial, .tup [], _, by
      refine Shed.weakR (g := [0, 1, 2, 3, 8]) ⟨rfl, by simp [oH], fun j hj => ?_, fun i j k hi hj => ?_, fun j i o' hj ho' _ => ?_⟩ (closed_tup0.seen _ _)
      · have : j < 4 := hj
        match j with
        | 0 => rfl
        | 1 => rfl
        | 2 => rfl
        | 3 => rfl
        | j + 4 => omega
      · rcases get5 hi with ⟨rfl, rfl⟩ | ⟨rfl, rfl⟩ | ⟨rfl, rfl⟩ | ⟨rfl, rfl⟩ | ⟨rfl, rfl⟩ <;> rcases get5 hj with ⟨rfl, h⟩ | ⟨rfl, h⟩ | ⟨rfl, h⟩ | ⟨rfl, h⟩ | ⟨rfl, h⟩ <;> first | rfl | omega
      · rcases get5 hj with ⟨rfl, rfl⟩ | ⟨rfl, rfl⟩ | ⟨rfl, rfl⟩ | ⟨rfl, rfl⟩ | ⟨rfl, rfl⟩
        · simp only [oH1, List.getElem?_cons_zero, Option.some.injEq] at ho'; subst ho'
          exact ⟨_, q0, seenO_row1 (seen_bs (byG_mk rfl))⟩
        · simp only [oH1, List.getElem?_cons_succ, List.getElem?_cons_zero, Option.some.injEq] at ho'; subst ho'
          exact ⟨_, q1, seenO_row3 ((closed_viewc N).seen _ _) (.map (byG_mk rfl)) (.map (byG_mk rfl))⟩
        · simp only [oH1, List.getElem?_cons_succ, List.getElem?_cons_zero, Option.some.injEq] at ho'; subst ho'
          exact ⟨_, q2, seenO_vto to⟩
        · simp only [oH1, List.getElem?_cons_succ, List.getElem?_cons_zero, Option.some.injEq] at ho'; subst ho'
          exact ⟨_, q3, seenO_ie _⟩
        · simp only [oH1, List.getElem?_cons_succ, List.getElem?_cons_zero, Option.some.injEq] at ho'; subst ho'
          refine ⟨_, q8, ?_⟩
          cases toldO N A with
          | nil => exact .dead _
          | cons x l => exact seenO_cc (x :: l), rfl, rfl⟩
    rcases he with rfl | rfl <;> exact key
end Go.Proofs.Ytnjpfoblmomnlaa.Sx
