/- Package graph: who is a node; what is appended through a captured variable. No conditions: a kit of our own. -/
import Derived.Test.YtnjpfoblmomnlaaFnHp2
import Derived.Test.YtnjpfoblmomnlaaIrGr
import Derived.Test.YtnjpfoblmomnlaaIds1
namespace Go.Proofs.Ytnjpfoblmomnlaa.Sx
open Go Go.RowKit
open Hp (mget mput mdel HpS)
set_option linter.unusedVariables false
set_option linter.unusedSimpArgs false
set_option maxHeartbeats 8000000

theorem det_cmpLess (a b : Int) : Det Try.prog 280 [en a, en b] [] (.bool (decide (a < b))) [] := by
  refine det_finF mixed0 (knows_cons known_CmpNaN knows_nil) ok_cmp_Less_int 1 (by simp) ?_
  simp [ic_cmp_Less_int, rs_cmp_Less_int, cCmpNaN]
def cCmpLess : Ctr := C2 (fun a b : Int => True) fun a b => .bool (decide (a < b))
theorem known_CmpLess : Known Try.prog 280 cCmpLess := known_C2 (fun a b h => det_cmpLess a b) fun a b => flat_bool _
theorem det_slNaN (x : Int) : Det Try.prog 300 [en x] [] (.bool false) [] := by
  refine det_finF mixed0 knows_nil ok_slices_isNaN_int 1 (by simp) ?_
  simp [ic_slices_isNaN_int, rs_slices_isNaN_int]
theorem known_SlNaN : Known Try.prog 300 cCmpNaN := known_C1 (fun x h => det_slNaN x) fun x => flat_bool _
/-- How many numbers are less. -/
def lessN (l : List Int) (n : Int) : Nat := (l.filter fun x => decide (x < n)).length
theorem lessN_eq {l : List Int} {n : Int} {i : Nat} (hi : i ≤ l.length) (h1 : ∀ k, k < i → nth l k 0 < n) (h2 : ∀ k, i ≤ k → k < l.length → n ≤ nth l k 0) : lessN l n = i := by
  have e : l = l.take i ++ l.drop i := (List.take_append_drop i l).symm
  have a : (l.take i).filter (fun x => decide (x < n)) = l.take i := List.filter_eq_self.2 fun x hx => by
    obtain ⟨k, hk, rfl⟩ := List.mem_iff_getElem.1 hx
    have hk' : k < i := by simp at hk; omega
    have := h1 k hk'
    rw [nth_get (by omega)] at this
    simpa using this
  have b : (l.drop i).filter (fun x => decide (x < n)) = [] := List.filter_eq_nil_iff.2 fun x hx => by
    obtain ⟨k, hk, rfl⟩ := List.mem_iff_getElem.1 hx
    have hk' : i + k < l.length := by simp at hk; omega
    have := h2 (i + k) (by omega) hk'
    rw [nth_get hk'] at this
    simpa using this
  unfold lessN
  rw [e, List.filter_append, a, b]
  simp; omega
theorem rise_nth {l : List Int} (h : l.Pairwise (· < ·)) {i j : Nat} (hij : i < j) (hj : j < l.length) : nth l i 0 < nth l j 0 := by
  rw [nth_get (by omega), nth_get hj]
  exact List.pairwise_iff_getElem.1 h i j (by omega) hj hij
theorem mem_lessN {l : List Int} {n : Int} (h : l.Pairwise (· < ·)) {i : Nat} (hi : i ≤ l.length) (h1 : ∀ k, k < i → nth l k 0 < n) (h2 : ∀ k, i ≤ k → k < l.length → n ≤ nth l k 0) : n ∈ l ↔ i < l.length ∧ nth l i 0 = n := by
  constructor
  · intro hm
    obtain ⟨k, hk, e⟩ := List.mem_iff_getElem.1 hm
    have e' : nth l k 0 = n := by rw [nth_get hk]; exact e
    have hki : i ≤ k := Nat.le_of_not_lt fun hlt => by have := h1 k hlt; omega
    refine ⟨by omega, ?_⟩
    by_cases hh : i = k
    · rw [hh]; exact e'
    · have := rise_nth h (i := i) (j := k) (by omega) hk
      have := h2 i (Nat.le_refl _) (by omega)
      omega
  · rintro ⟨h3, h4⟩
    rw [← h4, nth_get h3]
    exact List.getElem_mem _
theorem mid_u {i j : Nat} (h : i + j ≤ 2147483648) : IntKind.i64.wrap ((IntKind.u64.wrap ((i : Int) + (j : Int))).fdiv (2 ^ min 1 IntKind.u64.bits)) = (((i + j) / 2 : Nat) : Int) := by
  have e0 : (2 : Int) ^ min 1 IntKind.u64.bits = 2 := rfl
  rw [e0]
  have e1 : IntKind.u64.wrap ((i : Int) + (j : Int)) = ((i + j : Nat) : Int) := by
    rw [IntKind.wrap_u64]; omega
  have e2 : (((i + j : Nat) : Int)).fdiv 2 = (((i + j) / 2 : Nat) : Int) := by
    rw [Int.fdiv_eq_ediv_of_nonneg _ (by omega)]; omega
  rw [e1, e2, IntKind.wrap_i64]; omega
theorem det_BinSearch (l : List Int) (n : Int) (hl : l.length ≤ 1073741824) (hr : l.Pairwise (· < ·)) : Det Try.prog 287 [en l, en n] [] (.tup [.int .i64 (lessN l n), .bool (decide (n ∈ l))]) [] := by
  refine det_finF mixed0 (knows_cons known_CmpLess (knows_cons known_SlNaN knows_nil)) ok_slices_BinarySearch_int_int 1 (by simp) ?_
  simp [ic_slices_BinarySearch_int_int, rs_slices_BinarySearch_int_int]
  refine LoopC.gen (fun a : Nat × Nat => ⟨[(0, .view (l.map Cel.c)), (1, .int .i64 n), (6, .int .i64 l.length), (7, .int .i64 a.1), (8, .int .i64 a.2)], []⟩) (fun a => (a.1 ≤ a.2 ∧ a.2 ≤ l.length) ∧ (∀ k, k < a.1 → nth l k 0 < n) ∧ ∀ k, a.2 ≤ k → k < l.length → n ≤ nth l k 0) (fun a => a.2 - a.1) (0, l.length) (by simp) (by simp) ⟨⟨Nat.zero_le _, Nat.le_refl _⟩, fun k h => absurd h (Nat.not_lt_zero _), fun k h1 h2 => absurd h1 (by simp only; omega)⟩ ?_
  rintro ⟨i, j⟩ ⟨⟨h1, h2⟩, h3, h4⟩
  simp only at h1 h2 h3 h4
  by_cases hij : i < j
  · have hm := mid_u (i := i) (j := j) (by omega)
    have hp1 : i ≤ (i + j) / 2 := by omega
    have hp2 : (i + j) / 2 < j := by omega
    generalize (i + j) / 2 = p at *
    have hpl : p < l.length := by omega
    have le : ∀ a b, a ≤ b → b < l.length → nth l a 0 ≤ nth l b 0 := fun a b h1 h2 => by
      by_cases e : a = b
      · rw [e]; exact Int.le_refl _
      · have := rise_nth hr (i := a) (j := b) (by omega) h2
        omega
    by_cases hc : nth l p 0 < n
    · simp [hij, hm, cCmpLess, hc, hpl]
      refine ⟨by omega, by omega, p + 1, j, ⟨by omega, rfl⟩, ⟨⟨by omega, h2⟩, fun k hk => ?_, h4⟩, by omega⟩
      have := le k p (by omega) hpl
      omega
    · simp [hij, hm, cCmpLess, hc, hpl]
      refine ⟨by omega, i, p, ⟨rfl, rfl⟩, ⟨⟨hp1, by omega⟩, h3, fun k h5 h6 => ?_⟩, by omega⟩
      have := le p k h5 h6
      omega
  · obtain rfl : i = j := by omega
    have e1 := lessN_eq h2 h3 h4
    have e2 := mem_lessN hr h2 h3 h4
    by_cases c1 : i < l.length
    · by_cases c2 : nth l i 0 = n
      · have e3 : n ∈ l := e2.2 ⟨c1, c2⟩
        simp [c1, c2, cCmpNaN, e1, e3]
      · have e3 : n ∉ l := fun h => c2 (e2.1 h).2
        simp [c1, c2, cCmpNaN, e1, e3]
    · have e3 : n ∉ l := fun h => c1 (e2.1 h).1
      simp [c1, cCmpNaN, e1, e3]
def cBinSearch : Ctr := C2 (fun (l : List Int) (n : Int) => l.length ≤ 1073741824 ∧ l.Pairwise (· < ·)) fun l n => .tup [.int .i64 (lessN l n), .bool (decide (n ∈ l))]
theorem known_BinSearch : Known Try.prog 287 cBinSearch := known_C2 (fun l n h => det_BinSearch l n h.1 h.2) fun l n => flat_tup (by
  intro x hx
  simp at hx
  rcases hx with rfl | rfl
  · exact flat_int _ _
  · exact flat_bool _)
/-- Who is a node: of a web, whatever its maps are. -/
theorem det_has0 (N : List Int) (n : Int) (hl : N.length ≤ 1073741824) (hr : N.Pairwise (· < ·)) : Det Try.prog 258 [.vp [.view (N.map Cel.c), .any, .any] 0, en n] [] (.bool (decide (n ∈ N))) [] := by
  refine det_finF mixed0 (knows_cons known_BinSearch knows_nil) ok_graph_web_has 1 (by simp) ?_
  simp [ic_graph_web_has, rs_graph_web_has, cBinSearch, hl, hr]
def webP (H : List AObj) (p : Nat) : Prop := isRows H p ∧ rowsOf H p = [[nth (nth (rowsOf H p) 0 []) 0 .any, nth (nth (rowsOf H p) 0 []) 1 .any, nth (nth (rowsOf H p) 0 []) 2 .any]] ∧ Cel.ok (α := List Int) H [nth (nth (rowsOf H p) 0 []) 0 .any]
def webN (H : List AObj) (p : Nat) : List Int := Cel.u H [nth (nth (rowsOf H p) 0 []) 0 .any]
def cHas : Ctr := ⟨fun a H => match a with
  | [.ptr p r o, n] => ((r = 0 ∧ o = 0) ∧ webP H p ∧ okA Int H n) ∧ (webN H p).length ≤ 1073741824 ∧ (webN H p).Pairwise (· < ·)
  | _ => False, fun a H => match a with
  | [.ptr p r o, n] => .bool (decide (de Int H n ∈ webN H p))
  | _ => .any, fun a H => H⟩
@[simp] theorem cHas_pre (p r o : Nat) (n : AV) (H : List AObj) : cHas.pre [.ptr p r o, n] H = (((r = 0 ∧ o = 0) ∧ webP H p ∧ okA Int H n) ∧ (webN H p).length ≤ 1073741824 ∧ (webN H p).Pairwise (· < ·)) := rfl
@[simp] theorem cHas_val (p r o : Nat) (n : AV) (H : List AObj) : cHas.val [.ptr p r o, n] H = .bool (decide (de Int H n ∈ webN H p)) := rfl
@[simp] theorem cHas_hp (a : List AV) (H : List AObj) : cHas.hp a H = H := rfl
theorem known_Has : Known Try.prog 258 cHas := fun args H hp => by
  obtain ⟨p, r, o, n, rfl⟩ : ∃ p r o n, args = [.ptr p r o, n] := by
    rcases args with _ | ⟨a, _ | ⟨b, _ | ⟨c, l⟩⟩⟩
    · exact (hp : False).elim
    · cases a <;> exact (hp : False).elim
    · cases a <;> first | exact (hp : False).elim | exact ⟨_, _, _, _, rfl⟩
    · cases a <;> exact (hp : False).elim
  obtain ⟨⟨⟨rfl, rfl⟩, ⟨h1, h2, h3⟩, h4⟩, h5, h6⟩ := hp
  obtain ⟨sz, rs, e, e1, e2⟩ := isRows_some h1
  have hs := Cel.seen (α := List Int) H _ h3
  refine Det.pureZ (det_has0 (webN H p) (de Int H n) h5 h6) (each_cons ?_ (each_cons (okA_seen h4) each_nil)) (flat_bool _)
  rw [e1] at h2
  refine .fzp (r := 0) (rs := rs) (row := [nth (nth (rowsOf H p) 0 []) 0 .any, nth (nth (rowsOf H p) 0 []) 1 .any, nth (nth (rowsOf H p) 0 []) 2 .any]) e (fun j h => h) (by rw [h2, e1]; rfl) rfl fun k a b ha hb => ?_
  match k with
  | 0 =>
    simp at ha hb
    subst ha; subst hb
    exact hs.2 0 _ _ rfl rfl
  | 1 => simp at hb; subst hb; exact .any _
  | 2 => simp at hb; subst hb; exact .any _
  | k + 3 => simp at ha
end Go.Proofs.Ytnjpfoblmomnlaa.Sx
/- Closures that append to a captured slice, or lay into a captured map; package graph's three of them. No conditions: a kit of our own. -/
namespace Go.Proofs.Ytnjpfoblmomnlaa.Sx
open Go Go.RowKit
open Hp (mget mput mdel HpS)
set_option linter.unusedVariables false
set_option linter.unusedSimpArgs false

theorem get1 {a : Nat} {j i : Nat} (h : [a][j]? = some i) : j = 0 ∧ i = a := by
  match j with
  | 0 => simp at h; exact ⟨rfl, h.symm⟩
  | j + 1 => simp at h
theorem seenO_row1 {H : List AObj} {R : Nat → Nat → Prop} {a a' : AV} (h1 : Seen H R a a') : SeenO H R (.rows 1 [[a]]) (.rows 1 [[a']]) := .rows rfl (fun i r r' h1 h2 => by
  match i with
  | 0 => simp at h1 h2; subst h1; subst h2; rfl
  | i + 1 => simp at h1) fun i r r' j x y h3 h4 h5 h6 => by
  match i with
  | 0 =>
    simp at h3 h4; subst h3; subst h4
    match j with
    | 0 => simp at h5 h6; subst h5; subst h6; exact h1
    | j + 1 => simp at h5
  | i + 1 => simp at h3
/-! ### a box with a slice -/
section
variable (α : Type) [Cel α]
def boxA (H : List AObj) (b : Nat) : AV := nth (nth (rowsOf H b) 0 []) 0 .any
def bslP (H : List AObj) (b : Nat) : AV → Prop
  | .nils => True
  | .sl q r n => r = 0 ∧ b ≠ q ∧ isRows H q ∧ szOf H q = Cel.n α ∧ n = (rowsOf H q).length ∧ ∀ row ∈ rowsOf H q, Cel.ok (α := α) [] row
  | _ => False
def bslV (H : List AObj) : AV → List α
  | .sl q r n => (rowsOf H q).map (Cel.u [])
  | _ => []
@[simp] theorem bslP_nils (H : List AObj) (b : Nat) : bslP α H b .nils = True := rfl
@[simp] theorem bslP_sl (H : List AObj) (b q r n : Nat) : bslP α H b (.sl q r n) = (r = 0 ∧ b ≠ q ∧ isRows H q ∧ szOf H q = Cel.n α ∧ n = (rowsOf H q).length ∧ ∀ row ∈ rowsOf H q, Cel.ok (α := α) [] row) := rfl
@[simp] theorem bslV_nils (H : List AObj) : bslV α H .nils = [] := rfl
@[simp] theorem bslV_sl (H : List AObj) (q r n : Nat) : bslV α H (.sl q r n) = (rowsOf H q).map (Cel.u []) := rfl
def boxP (H : List AObj) : AV → Prop
  | .ptr b r o => (r = 0 ∧ o = 0) ∧ isRows H b ∧ rowsOf H b = [[boxA H b]] ∧ szOf H b = 1 ∧ bslP α H b (boxA H b)
  | _ => False
def boxV (H : List AObj) : AV → List α
  | .ptr b r o => bslV α H (boxA H b)
  | _ => []
def boxF (H : List AObj) : AV → Nat
  | .ptr b r o => slF (boxA H b)
  | _ => 0
end
section
variable {α : Type} [Cel α]
def boxN1 (H : List AObj) (y : List α) (b : Nat) : AV → List AObj
  | .sl q _ _ => (H.set b (.rows 1 [[.sl H.length 0 y.length]])).set q .dead ++ [.rows (Cel.n α) (y.map Cel.c)]
  | _ => H.set b (.rows 1 [[.sl H.length 0 y.length]]) ++ [.rows (Cel.n α) (y.map Cel.c)]
def boxN (H : List AObj) (y : List α) : AV → List AObj
  | .ptr b _ _ => boxN1 H y b (boxA H b)
  | _ => H
def bxS (α : Type) [Cel α] : Nat → List α → List AObj
  | 0, l => [.rows 1 [[.nils]]]
  | _ + 1, l => [.rows 1 [[.sl 1 0 l.length]], .rows (Cel.n α) (l.map Cel.c)]
def bxS' : Nat → List α → List AObj
  | 0, l => [.rows 1 [[.sl 1 0 l.length]], .rows (Cel.n α) (l.map Cel.c)]
  | _ + 1, l => [.rows 1 [[.sl 2 0 l.length]], .dead, .rows (Cel.n α) (l.map Cel.c)]
@[simp] theorem boxP_ptr (H : List AObj) (b r o : Nat) : boxP α H (.ptr b r o) = ((r = 0 ∧ o = 0) ∧ isRows H b ∧ rowsOf H b = [[boxA H b]] ∧ szOf H b = 1 ∧ bslP α H b (boxA H b)) := rfl
@[simp] theorem boxV_ptr (H : List AObj) (b r o : Nat) : boxV α H (.ptr b r o) = bslV α H (boxA H b) := rfl
@[simp] theorem boxF_ptr (H : List AObj) (b r o : Nat) : boxF H (.ptr b r o) = slF (boxA H b) := rfl
@[simp] theorem boxN_ptr (H : List AObj) (y : List α) (b r o : Nat) : boxN H y (.ptr b r o) = boxN1 H y b (boxA H b) := rfl
@[simp] theorem boxN1_sl (H : List AObj) (y : List α) (b q r n : Nat) : boxN1 H y b (.sl q r n) = (H.set b (.rows 1 [[.sl H.length 0 y.length]])).set q .dead ++ [.rows (Cel.n α) (y.map Cel.c)] := rfl
@[simp] theorem boxN1_nils (H : List AObj) (y : List α) (b : Nat) : boxN1 H y b .nils = H.set b (.rows 1 [[.sl H.length 0 y.length]]) ++ [.rows (Cel.n α) (y.map Cel.c)] := rfl
theorem seenO_all {R : Nat → Nat → Prop} {sz : Nat} {rs : List (List AV)} (h : ∀ row ∈ rs, Cel.ok (α := α) [] row) : SeenO [] R (.rows sz rs) (.rows sz ((rs.map (Cel.u (α := α) [])).map Cel.c)) := .rows (by simp) (fun i r r' h1 h2 => by
    simp only [List.getElem?_map, h1, Option.map_some, Option.some.injEq] at h2
    subst h2
    exact (Cel.seen (α := α) [] r (h r (List.mem_of_getElem? h1))).1) fun i r r' j a b h1 h2 h3 h4 => by
  simp only [List.getElem?_map, h1, Option.map_some, Option.some.injEq] at h2
  subst h2
  exact ((Cel.seen (α := α) [] r (h r (List.mem_of_getElem? h1))).2 j a b h3 h4).mono (fun _ _ h => h.elim) (.inl rfl)
theorem Det.boxN {P : Program} {f : FuncId} {args args0 : List AV} {x : AV} {H : List AObj} {a : AV} {y : List α} (hp : boxP α H a) (hd : Det P f (args0 ++ [.ptr 0 0 0]) (bxS α (boxF H a) (boxV α H a)) x (bxS' (boxF H a) y)) (ha : Each (Seen [] (fun _ _ => False)) args args0) (hx : Closed x) : Det P f (args ++ [a]) H x (Sx.boxN H y a) := by
  match a, hp with
  | .ptr b r o, hp =>
  obtain ⟨⟨rfl, rfl⟩, h1, h2, h3, hs⟩ := hp
  obtain ⟨sz, rs, e, k1, k2⟩ := isRows_some h1
  have e1 : H[b]? = some (.rows 1 [[boxA H b]]) := by rw [e, ← k1, h2, ← k2, h3]
  have l1 : b < H.length := (List.getElem?_eq_some_iff.1 e).1
  simp only [boxV_ptr, boxF_ptr, boxN_ptr] at hd ⊢
  generalize hA : boxA H b = A at *
  have lift : ∀ g : List Nat, byG g b 0 → Each (Seen [] (byG g)) (args ++ [.ptr b 0 0]) (args0 ++ [.ptr 0 0 0]) := fun g hg => each_app ⟨ha.1, fun i a b h1 h2 => (ha.2 i a b h1 h2).mono (fun _ _ h => h.elim) (.inl rfl)⟩ (each_cons (.ptr hg) each_nil)
  cases A <;> first | exact hs.elim | skip
  · simp only [slF_nils, bslV_nils, bxS, bxS', boxN1_nils] at hd ⊢
    have nm : names [b] H.length 1 = [b, H.length] := by simp [names]
    have hs1 : [AObj.rows 1 [[.sl 1 0 y.length]], .rows (Cel.n α) (y.map Cel.c)].length - [b].length = 1 := rfl
    refine hd.frame (ids := [b]) (H := H) ⟨rfl, fun i j k hi hj => ?_, fun j i h => ?_, fun j i o' hj ho _ => ?_, by simp, by simp, fun j i o' hj ho _ => ?_, fun i hi hn => ?_⟩ (lift _ (byG_mk rfl)) (hx.seen _ _)
    · have := get1 hi; have := get1 hj; omega
    · obtain ⟨rfl, rfl⟩ := get1 h; exact l1
    · obtain ⟨rfl, rfl⟩ := get1 hj
      simp at ho; subst ho; exact ⟨_, e1, seenO_row1 .nils⟩
    · simp only [hs1, nm] at hj ⊢
      rcases get2 hj with ⟨rfl, rfl⟩ | ⟨rfl, rfl⟩
      · rw [List.getElem?_append_left (by simpa using l1), List.getElem?_set_self l1] at ho
        cases ho
        exact ⟨_, rfl, seenO_row1 (.sl rfl)⟩
      · rw [List.getElem?_append_right (by simp)] at ho
        simp at ho
        subst ho
        exact ⟨_, rfl, seenO_cc _⟩
    · have h1 : i ≠ b := fun e => hn 0 (by simp [e])
      rw [List.getElem?_append_left (by simpa using hi), List.getElem?_set_ne (fun e => h1 e.symm)]
  · rename_i q r n
    obtain ⟨rfl, hne, j1, j2, j3, j4⟩ := hs
    obtain ⟨sz', rs', e2, k3, k4⟩ := isRows_some j1
    rw [k4] at j2; subst j2
    rw [k3] at j3 j4; subst j3
    have l3 : q < H.length := (List.getElem?_eq_some_iff.1 e2).1
    simp only [slF_sl, bslV_sl, bxS, bxS', boxN1_sl, k3] at hd ⊢
    simp only [List.length_map] at hd
    have nm : names [b, q] H.length 1 = [b, q, H.length] := by simp [names]
    have hs1 : [AObj.rows 1 [[.sl 2 0 y.length]], .dead, .rows (Cel.n α) (y.map Cel.c)].length - [b, q].length = 1 := rfl
    refine hd.frame (ids := [b, q]) (H := H) ⟨rfl, fun i j k hi hj => ?_, fun j i h => ?_, fun j i o' hj ho _ => ?_, by simp, by simp, fun j i o' hj ho hd' => ?_, fun i hi hn => ?_⟩ (lift _ (byG_mk rfl)) (hx.seen _ _)
    · rcases get2 hi with ⟨rfl, rfl⟩ | ⟨rfl, rfl⟩ <;> rcases get2 hj with ⟨rfl, h⟩ | ⟨rfl, h⟩ <;> first | rfl | omega
    · rcases get2 h with ⟨rfl, rfl⟩ | ⟨rfl, rfl⟩ <;> assumption
    · rcases get2 hj with ⟨rfl, rfl⟩ | ⟨rfl, rfl⟩
      · simp at ho; subst ho; exact ⟨_, e1, seenO_row1 (.sl (byG_mk rfl))⟩
      · simp only [List.getElem?_cons_succ, List.getElem?_cons_zero, Option.some.injEq] at ho; subst ho; exact ⟨_, e2, seenO_all j4⟩
    · simp only [hs1, nm] at hj ⊢
      rcases get3 hj with ⟨rfl, rfl⟩ | ⟨rfl, rfl⟩ | ⟨rfl, rfl⟩
      · rw [List.getElem?_append_left (by simpa using l1), List.getElem?_set_ne (fun e => hne e.symm), List.getElem?_set_self l1] at ho
        cases ho
        exact ⟨_, rfl, seenO_row1 (.sl rfl)⟩
      · rw [List.getElem?_append_left (by simpa using l3), List.getElem?_set_self (by simpa using l3)] at ho
        cases ho
        exact absurd rfl hd'
      · rw [List.getElem?_append_right (by simp)] at ho
        simp at ho
        subst ho
        exact ⟨_, rfl, seenO_cc _⟩
    · have h1 : i ≠ b := fun e => hn 0 (by simp [e])
      have h2 : i ≠ q := fun e => hn 1 (by simp [e])
      rw [List.getElem?_append_left (by simpa using hi), List.getElem?_set_ne (fun e => h2 e.symm), List.getElem?_set_ne (fun e => h1 e.symm)]
end
/-! ### a box with a map of numbers -/
def bmR (H : List AObj) (b : Nat) : Nat := mapId (nth (nth (rowsOf H b) 0 []) 0 .any)
def bmP (H : List AObj) : AV → Prop
  | .ptr b r o => (r = 0 ∧ o = 0) ∧ isRows H b ∧ rowsOf H b = [[.map (bmR H b)]] ∧ szOf H b = 1 ∧ isMap H (bmR H b) ∧ allI (mapOf H (bmR H b))
  | _ => False
def bmV (H : List AObj) : AV → List (Int × Int)
  | .ptr b _ _ => (mapOf H (bmR H b)).map ei
  | _ => []
def bmW (H : List AObj) (y : List (Int × Int)) : AV → List AObj
  | .ptr b _ _ => H.set (bmR H b) (.imap (y.map ie))
  | _ => H
@[simp] theorem bmP_ptr (H : List AObj) (b r o : Nat) : bmP H (.ptr b r o) = ((r = 0 ∧ o = 0) ∧ isRows H b ∧ rowsOf H b = [[.map (bmR H b)]] ∧ szOf H b = 1 ∧ isMap H (bmR H b) ∧ allI (mapOf H (bmR H b))) := rfl
@[simp] theorem bmV_ptr (H : List AObj) (b r o : Nat) : bmV H (.ptr b r o) = (mapOf H (bmR H b)).map ei := rfl
@[simp] theorem bmW_ptr (H : List AObj) (y : List (Int × Int)) (b r o : Nat) : bmW H y (.ptr b r o) = H.set (bmR H b) (.imap (y.map ie)) := rfl
/-! ### graph's closures -/
@[simp] theorem n_Int : Cel.n Int = 1 := rfl
theorem det_Order_1 (k : Nat) (l : List Int) (n v : Int) (hk : k = 0 → l = []) (hl : l.length ≤ 1073741823) : Det Try.prog 209 [en n, en v, .ptr 0 0 0] (bxS Int k l) (.tup []) (bxS' k (l ++ [n])) := by
  cases k with
  | zero =>
    have := hk rfl
    subst this
    refine det_fin0 mixed0 knows_nil ok_graph_Order_1 (by simp) ?_
    simp [ic_graph_Order_1, rs_graph_Order_1, bxS, bxS', vcLoose, heapsOf]
  | succ k =>
    refine det_fin0 mixed0 knows_nil ok_graph_Order_1 (by simp) ?_
    simp [ic_graph_Order_1, rs_graph_Order_1, bxS, bxS', vcLoose, heapsOf]
    try omega
def cOrder_1 : Ctr := ⟨fun a H => match a with
  | [a, b, p] => (okA Int [] a ∧ okA Int [] b ∧ boxP Int H p) ∧ (boxV Int H p).length ≤ 1073741823
  | _ => False, fun a H => .tup [], fun a H => match a with
  | [a, b, p] => boxN H (boxV Int H p ++ [de Int [] a]) p
  | _ => H⟩
@[simp] theorem cOrder_1_pre (a b p : AV) (H : List AObj) : cOrder_1.pre [a, b, p] H = ((okA Int [] a ∧ okA Int [] b ∧ boxP Int H p) ∧ (boxV Int H p).length ≤ 1073741823) := rfl
@[simp] theorem cOrder_1_val (a : List AV) (H : List AObj) : cOrder_1.val a H = .tup [] := rfl
@[simp] theorem cOrder_1_hp (a b p : AV) (H : List AObj) : cOrder_1.hp [a, b, p] H = boxN H (boxV Int H p ++ [de Int [] a]) p := rfl
theorem boxF_zero {α : Type} [Cel α] {H : List AObj} {p : AV} (hp : boxP α H p) (h : boxF H p = 0) : boxV α H p = [] := by
  cases p <;> first | exact (hp : False).elim | skip
  rename_i b r o
  have hs := hp.2.2.2.2
  simp only [boxF_ptr, boxV_ptr] at h ⊢
  cases hA : boxA H b <;> rw [hA] at hs h <;> first | exact hs.elim | rfl | (simp [slF] at h)
theorem known_Order_1 : Known Try.prog 209 cOrder_1 := fun args H hp => by
  match args, hp with
  | [a, b, p], ⟨⟨h1, h2, h3⟩, h4⟩ => exact Det.boxN (args := [a, b]) (args0 := [en (de Int [] a), en (de Int [] b)]) h3 (det_Order_1 _ _ _ _ (fun h => boxF_zero h3 h) h4) (each_cons (okA_seen h1) (each_cons (okA_seen h2) each_nil)) closed_tup0
def cLevels_1 : Ctr := ⟨fun a H => match a with
  | [a, b, p] => okA Int [] a ∧ okA Int [] b ∧ bmP H p
  | _ => False, fun a H => .tup [], fun a H => match a with
  | [a, b, p] => bmW H (mput (bmV H p) (de Int [] a) (de Int [] b)) p
  | _ => H⟩
@[simp] theorem cLevels_1_pre (a b p : AV) (H : List AObj) : cLevels_1.pre [a, b, p] H = (okA Int [] a ∧ okA Int [] b ∧ bmP H p) := rfl
@[simp] theorem cLevels_1_val (a : List AV) (H : List AObj) : cLevels_1.val a H = .tup [] := rfl
@[simp] theorem cLevels_1_hp (a b p : AV) (H : List AObj) : cLevels_1.hp [a, b, p] H = bmW H (mput (bmV H p) (de Int [] a) (de Int [] b)) p := rfl
end Go.Proofs.Ytnjpfoblmomnlaa.Sx
