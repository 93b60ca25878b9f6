/- Package batch: books, and what is asked of all of them. No conditions: a kit of our own. -/
import Derived.Test.YtaimhgmakgbfaaaFnGr6
import Derived.Test.YtaimhgmakgbfaaaFnC2
import Derived.Test.YtaimhgmakgbfaaaIrBt
namespace Go.Proofs.Ytaimhgmakgbfaaa.Sx
open Go Go.RowKit
open Hp (mget mput mdel HpS)
set_option linter.unusedVariables false
set_option linter.unusedSimpArgs false

/-! ### closures that read memory which stays -/
section
variable {α : Type} [Cel α]
/-- A closure over the object k: at H it tells p of what it is handed. -/
def cQ (D : α → Prop) (H : List AObj) (k : Nat) (p : α → Bool) : Ctr := ⟨fun a H' => match a with
  | [a, q] => a = en (de α [] a) ∧ D (de α [] a) ∧ q = .ptr k 0 0 ∧ H' = H
  | _ => False, fun a H' => match a with
  | [a, q] => .bool (p (de α [] a))
  | _ => .any, fun a H' => H'⟩
@[simp] theorem cQ_pre (D : α → Prop) (H : List AObj) (k : Nat) (p : α → Bool) (a q : AV) (H' : List AObj) : (cQ D H k p).pre [a, q] H' = (a = en (de α [] a) ∧ D (de α [] a) ∧ q = .ptr k 0 0 ∧ H' = H) := rfl
@[simp] theorem cQ_val (D : α → Prop) (H : List AObj) (k : Nat) (p : α → Bool) (a q : AV) (H' : List AObj) : (cQ D H k p).val [a, q] H' = .bool (p (de α [] a)) := rfl
@[simp] theorem cQ_hp (D : α → Prop) (H : List AObj) (k : Nat) (p : α → Bool) (a : List AV) (H' : List AObj) : (cQ D H k p).hp a H' = H' := rfl
theorem known_Q {P : Program} {f : FuncId} {H : List AObj} {k : Nat} {D : α → Prop} {p : α → Bool} (h : ∀ x : α, D x → Det P f [en x, .ptr k 0 0] H (.bool (p x)) H) : Known P f (cQ D H k p) := fun args H' hp => by
  match args, hp with
  | [a, q], ⟨h1, h0, h2, h3⟩ =>
    subst h2 h3
    have := h (de α [] a) h0
    rw [← h1] at this
    exact this
/-- Where the first is that a closure tells it of. -/
def cIxQ (D : α → Prop) (H : List AObj) (f : FuncId) (k : Nat) (p : α → Bool) : Ctr := ⟨fun a H' => match a with
  | [a, q] => a = en (de (List α) [] a) ∧ (de (List α) [] a).length ≤ 9223372036854775807 ∧ (∀ x ∈ de (List α) [] a, D x) ∧ q = .fn f [] [.ptr k 0 0] ∧ H' = H
  | _ => False, fun a H' => match a with
  | [a, q] => .int .i64 (fidx p (de (List α) [] a) 0)
  | _ => .any, fun a H' => H'⟩
@[simp] theorem cIxQ_pre (D : α → Prop) (H : List AObj) (f : FuncId) (k : Nat) (p : α → Bool) (a q : AV) (H' : List AObj) : (cIxQ D H f k p).pre [a, q] H' = (a = en (de (List α) [] a) ∧ (de (List α) [] a).length ≤ 9223372036854775807 ∧ (∀ x ∈ de (List α) [] a, D x) ∧ q = .fn f [] [.ptr k 0 0] ∧ H' = H) := rfl
@[simp] theorem cIxQ_val (D : α → Prop) (H : List AObj) (f : FuncId) (k : Nat) (p : α → Bool) (a q : AV) (H' : List AObj) : (cIxQ D H f k p).val [a, q] H' = .int .i64 (fidx p (de (List α) [] a) 0) := rfl
@[simp] theorem cIxQ_hp (D : α → Prop) (H : List AObj) (f : FuncId) (k : Nat) (p : α → Bool) (a : List AV) (H' : List AObj) : (cIxQ D H f k p).hp a H' = H' := rfl
theorem known_IxQ {P : Program} {g f : FuncId} {H : List AObj} {k : Nat} {D : α → Prop} {p : α → Bool} (h : ∀ l : List α, l.length ≤ 9223372036854775807 → (∀ x ∈ l, D x) → Det P g [en l, .fn f [] [.ptr k 0 0]] H (.int .i64 (fidx p l 0)) H) : Known P g (cIxQ D H f k p) := fun args H' hp => by
  match args, hp with
  | [a, q], ⟨h1, h2, h0, h3, h4⟩ =>
    subst h3 h4
    have := h (de (List α) [] a) h2 h0
    rw [← h1] at this
    exact this
/-- Whether a closure tells it of any. -/
def cCfQ (D : α → Prop) (H : List AObj) (f : FuncId) (k : Nat) (p : α → Bool) : Ctr := ⟨fun a H' => match a with
  | [a, q] => a = en (de (List α) [] a) ∧ (de (List α) [] a).length ≤ 9223372036854775807 ∧ (∀ x ∈ de (List α) [] a, D x) ∧ q = .fn f [] [.ptr k 0 0] ∧ H' = H
  | _ => False, fun a H' => match a with
  | [a, q] => .bool ((de (List α) [] a).any p)
  | _ => .any, fun a H' => H'⟩
@[simp] theorem cCfQ_pre (D : α → Prop) (H : List AObj) (f : FuncId) (k : Nat) (p : α → Bool) (a q : AV) (H' : List AObj) : (cCfQ D H f k p).pre [a, q] H' = (a = en (de (List α) [] a) ∧ (de (List α) [] a).length ≤ 9223372036854775807 ∧ (∀ x ∈ de (List α) [] a, D x) ∧ q = .fn f [] [.ptr k 0 0] ∧ H' = H) := rfl
@[simp] theorem cCfQ_val (D : α → Prop) (H : List AObj) (f : FuncId) (k : Nat) (p : α → Bool) (a q : AV) (H' : List AObj) : (cCfQ D H f k p).val [a, q] H' = .bool ((de (List α) [] a).any p) := rfl
@[simp] theorem cCfQ_hp (D : α → Prop) (H : List AObj) (f : FuncId) (k : Nat) (p : α → Bool) (a : List AV) (H' : List AObj) : (cCfQ D H f k p).hp a H' = H' := rfl
theorem known_CfQ {P : Program} {g f : FuncId} {H : List AObj} {k : Nat} {D : α → Prop} {p : α → Bool} (h : ∀ l : List α, l.length ≤ 9223372036854775807 → (∀ x ∈ l, D x) → Det P g [en l, .fn f [] [.ptr k 0 0]] H (.bool (l.any p)) H) : Known P g (cCfQ D H f k p) := fun args H' hp => by
  match args, hp with
  | [a, q], ⟨h1, h2, h0, h3, h4⟩ =>
    subst h3 h4
    have := h (de (List α) [] a) h2 h0
    rw [← h1] at this
    exact this
end
theorem fidx_any {α : Type} (p : α → Bool) : ∀ (l : List α) (i : Int), 0 ≤ i → decide (0 ≤ fidx p l i) = l.any p
  | [], i, h => by simp [fidx]
  | x :: r, i, h => by
    have ih := fidx_any p r (i + 1) (by omega)
    simp only [fidx, List.any_cons]
    by_cases hp : p x = true
    · simp [hp, h]
    · simp [hp, ih]
theorem det_IxS (H : List AObj) (hH : ∀ o ∈ H, LowO H.length o) (f : FuncId) (k : Nat) (hk : k < H.length) (D : Spec → Prop) (p : Spec → Bool) (hf : ∀ x : Spec, D x → Det Try.prog f [en x, .ptr k 0 0] H (.bool (p x)) H) (l : List Spec) (hl : l.length ≤ 9223372036854775807) (hD : ∀ x ∈ l, D x) :
    Det Try.prog 156 [en l, .fn f [] [.ptr k 0 0]] H (.int .i64 (fidx p l 0)) H := by
  refine det_finK mixed0 (knows_cons (known_Q hf) knows_nil) ok_slices_IndexFunc_api_Spec_api_Spec 1 (by simp) hH rfl ?_
  simp [ic_slices_IndexFunc_api_Spec_api_Spec, rs_slices_IndexFunc_api_Spec_api_Spec]
  refine LoopC.scanB Spec.zero l (fun i (_ : Unit) => ⟨[(0, .view (l.map Cel.c)), (1, .fn f [] [.ptr k 0 0]), (7, .int .i64 l.length), (8, .int .i64 i)], H⟩) (fun i _ r => fidx p l 0 = fidx p r i) () (by simp; intros; exact ⟨hk, hH⟩) (by simp) rfl (fun i a r b hi ha hd hG => ?_) fun b hG => ?_
  · rw [hG]
    have hDa := hD a (mem_drop hd)
    simp [hi, ha, fidx, hDa, vcLoose]
    cases hp : p a
    · simp <;> omega
    · simp <;> omega
  · rw [hG]
    simp [fidx]
theorem det_CfS (H : List AObj) (hH : ∀ o ∈ H, LowO H.length o) (f : FuncId) (k : Nat) (hk : k < H.length) (D : Spec → Prop) (p : Spec → Bool) (hf : ∀ x : Spec, D x → Det Try.prog f [en x, .ptr k 0 0] H (.bool (p x)) H) (l : List Spec) (hl : l.length ≤ 9223372036854775807) (hD : ∀ x ∈ l, D x) :
    Det Try.prog 96 [en l, .fn f [] [.ptr k 0 0]] H (.bool (l.any p)) H := by
  refine det_finK mixed0 (knows_cons (known_IxQ fun l hl hD => det_IxS H hH f k hk D p hf l hl hD) knows_nil) ok_slices_ContainsFunc_api_Spec_api_Spec 1 (by simp) hH rfl ?_
  simp [ic_slices_ContainsFunc_api_Spec_api_Spec, rs_slices_ContainsFunc_api_Spec_api_Spec, hl, fidx_any]
  exact hD
theorem det_IxI (H : List AObj) (hH : ∀ o ∈ H, LowO H.length o) (f : FuncId) (k : Nat) (hk : k < H.length) (D : Int → Prop) (p : Int → Bool) (hf : ∀ x : Int, D x → Det Try.prog f [en x, .ptr k 0 0] H (.bool (p x)) H) (l : List Int) (hl : l.length ≤ 9223372036854775807) (hD : ∀ x ∈ l, D x) :
    Det Try.prog 169 [en l, .fn f [] [.ptr k 0 0]] H (.int .i64 (fidx p l 0)) H := by
  refine det_finK mixed0 (knows_cons (known_Q hf) knows_nil) ok_slices_IndexFunc_int_int 1 (by simp) hH rfl ?_
  simp [ic_slices_IndexFunc_int_int, rs_slices_IndexFunc_int_int]
  refine LoopC.scanB (0 : Int) l (fun i (_ : Unit) => ⟨[(0, .view (l.map Cel.c)), (1, .fn f [] [.ptr k 0 0]), (7, .int .i64 l.length), (8, .int .i64 i)], H⟩) (fun i _ r => fidx p l 0 = fidx p r i) () (by simp; intros; exact ⟨hk, hH⟩) (by simp) rfl (fun i a r b hi ha hd hG => ?_) fun b hG => ?_
  · rw [hG]
    have hDa := hD a (mem_drop hd)
    simp [hi, ha, fidx, hDa, vcLoose]
    cases hp : p a
    · simp <;> omega
    · simp <;> omega
  · rw [hG]
    simp [fidx]
theorem det_CfI (H : List AObj) (hH : ∀ o ∈ H, LowO H.length o) (f : FuncId) (k : Nat) (hk : k < H.length) (D : Int → Prop) (p : Int → Bool) (hf : ∀ x : Int, D x → Det Try.prog f [en x, .ptr k 0 0] H (.bool (p x)) H) (l : List Int) (hl : l.length ≤ 9223372036854775807) (hD : ∀ x ∈ l, D x) :
    Det Try.prog 158 [en l, .fn f [] [.ptr k 0 0]] H (.bool (l.any p)) H := by
  refine det_finK mixed0 (knows_cons (known_IxQ fun l hl hD => det_IxI H hH f k hk D p hf l hl hD) knows_nil) ok_slices_ContainsFunc_int_int 1 (by simp) hH rfl ?_
  simp [ic_slices_ContainsFunc_int_int, rs_slices_ContainsFunc_int_int, hl, fidx_any]
  exact hD

/-! ### books -/
def bkA (l : List Spec) : AV := .agg [.map 0, .map 1, .view (l.map Cel.c)]
def bkR (l : List Spec) : AObj := .rows 3 [[.map 0, .map 1, .view (l.map Cel.c)]]
def H3 (kn fr : List (Int × Int)) (l : List Spec) : List AObj := [.imap (kn.map ie), .imap (fr.map ie), bkR l]
def H5 (f : FuncId) (kn fr : List (Int × Int)) (l : List Spec) : List AObj := [.imap (kn.map ie), .imap (fr.map ie), bkR l, bkR l, .rows 1 [[.fn f [bkA l] []]]]
def H6 (f : FuncId) (kn fr : List (Int × Int)) (l : List Spec) (x : Spec) : List AObj := [.imap (kn.map ie), .imap (fr.map ie), bkR l, bkR l, .rows 1 [[.fn f [bkA l] []]], .rows 9 [Cel.c x]]
theorem low3 (kn fr : List (Int × Int)) (l : List Spec) : ∀ o ∈ H3 kn fr l, LowO (H3 kn fr l).length o := by
  simp [H3, bkR]
theorem low5 (f : FuncId) (kn fr : List (Int × Int)) (l : List Spec) : ∀ o ∈ H5 f kn fr l, LowO (H5 f kn fr l).length o := by
  simp [H5, bkR, bkA]
theorem low6 (f : FuncId) (kn fr : List (Int × Int)) (l : List Spec) (x : Spec) : ∀ o ∈ H6 f kn fr l x, LowO (H6 f kn fr l x).length o := by
  simp [H6, bkR, bkA]
def thereB (kn fr : List (Int × Int)) (n : Int) : Bool := (mget kn n).isSome || decide (0 < (mget fr n).getD 0)
def soundB (kn : List (Int × Int)) (n : Int) : Bool := decide ((mget kn n).getD 0 ≠ 5) && decide ((mget kn n).getD 0 ≠ 6)
def twiceB (kn fr : List (Int × Int)) (x : Spec) : Bool := (mget kn x.ID).isSome || decide (1 < (mget fr x.ID).getD 0)
theorem det_Check_1 (kn fr : List (Int × Int)) (l : List Spec) (x : Spec) : Det Try.prog 95 [en x, .ptr 2 0 0] (H3 kn fr l) (.bool (twiceB kn fr x)) (H3 kn fr l) := by
  refine det_finK mixed0 knows_nil ok_batch_Check_1 1 (by simp) (low3 kn fr l) rfl ?_
  cases hk : mget kn x.ID with
  | none => simp [ic_batch_Check_1, rs_batch_Check_1, H3, bkR, twiceB, hk]
  | some v => simp [ic_batch_Check_1, rs_batch_Check_1, H3, bkR, twiceB, hk]
theorem det_there (kn fr : List (Int × Int)) (l : List Spec) (x : Spec) (n : Int) : Det Try.prog 98 [bkA l, en n] (H6 98 kn fr l x) (.bool (thereB kn fr n)) (H6 98 kn fr l x) := by
  refine det_finK mixed0 knows_nil ok_batch_book_there 1 (by simp) (low6 _ kn fr l x) rfl ?_
  cases hk : mget kn n with
  | none => simp [ic_batch_book_there, rs_batch_book_there, H6, bkR, bkA, thereB, hk]
  | some v => simp [ic_batch_book_there, rs_batch_book_there, H6, bkR, bkA, thereB, hk]
theorem det_sound (kn fr : List (Int × Int)) (l : List Spec) (x : Spec) (n : Int) : Det Try.prog 99 [bkA l, en n] (H6 99 kn fr l x) (.bool (soundB kn n)) (H6 99 kn fr l x) := by
  refine det_finK mixed0 knows_nil ok_batch_book_sound 1 (by simp) (low6 _ kn fr l x) rfl ?_
  by_cases h5 : (mget kn n).getD 0 = 5
  · simp [ic_batch_book_sound, rs_batch_book_sound, H6, bkR, bkA, soundB, h5]
  · simp [ic_batch_book_sound, rs_batch_book_sound, H6, bkR, bkA, soundB, h5]

/-! ### what is so of all that some spec comes after -/
/-- What is known, or new, as the function f of a book tells it. -/
def cB (H : List AObj) (l : List Spec) (p : Int → Bool) : Ctr := ⟨fun a H' => match a with
  | [b, n] => b = bkA l ∧ n = en (de Int [] n) ∧ H' = H
  | _ => False, fun a H' => match a with
  | [b, n] => .bool (p (de Int [] n))
  | _ => .any, fun a H' => H'⟩
@[simp] theorem cB_pre (H : List AObj) (l : List Spec) (p : Int → Bool) (b n : AV) (H' : List AObj) : (cB H l p).pre [b, n] H' = (b = bkA l ∧ n = en (de Int [] n) ∧ H' = H) := rfl
@[simp] theorem cB_val (H : List AObj) (l : List Spec) (p : Int → Bool) (b n : AV) (H' : List AObj) : (cB H l p).val [b, n] H' = .bool (p (de Int [] n)) := rfl
@[simp] theorem cB_hp (H : List AObj) (l : List Spec) (p : Int → Bool) (a : List AV) (H' : List AObj) : (cB H l p).hp a H' = H' := rfl
theorem known_B {P : Program} {f : FuncId} {H : List AObj} {l : List Spec} {p : Int → Bool} (h : ∀ n : Int, Det P f [bkA l, en n] H (.bool (p n)) H) : Known P f (cB H l p) := fun args H' hp => by
  match args, hp with
  | [b, n], ⟨h1, h2, h3⟩ =>
    subst h1 h3
    have := h (de Int [] n)
    rw [← h2] at this
    exact this
theorem det_each_1_1 (f : FuncId) (kn fr : List (Int × Int)) (l : List Spec) (x : Spec) (p : Int → Bool) (h : ∀ n : Int, Det Try.prog f [bkA l, en n] (H6 f kn fr l x) (.bool (p n)) (H6 f kn fr l x)) (n : Int) :
    Det Try.prog 159 [en n, .ptr 4 0 0] (H6 f kn fr l x) (.bool (!p n)) (H6 f kn fr l x) := by
  refine det_finK mixed0 (knows_cons (known_B h) knows_nil) ok_batch_book_each_1_1 1 (by simp) (low6 f kn fr l x) rfl ?_
  simp [ic_batch_book_each_1_1, rs_batch_book_each_1_1, H6, bkR, bkA]
theorem det_each_1 (f : FuncId) (kn fr : List (Int × Int)) (l : List Spec) (p : Int → Bool) (h : ∀ x n, Det Try.prog f [bkA l, en n] (H6 f kn fr l x) (.bool (p n)) (H6 f kn fr l x)) (x : Spec) (hx : x.After.length ≤ 32767) :
    Det Try.prog 157 [en x, .ptr 4 0 0] (H5 f kn fr l) (.bool (x.After.any fun n => !p n)) (H5 f kn fr l) := by
  have hx' : x.After.length ≤ 9223372036854775807 := by omega
  refine det_finK mixed0 (knows_cons (known_CfQ fun l' hl' hD' => det_CfI (H6 f kn fr l x) (low6 f kn fr l x) _ 4 (by simp [H6]) (fun _ => True) (fun n => !p n) (fun n _ => det_each_1_1 f kn fr l x p (h x) n) l' hl' hD') knows_nil) ok_batch_book_each_1 1 (by simp) (low5 f kn fr l) rfl ?_
  simp [ic_batch_book_each_1, rs_batch_book_each_1, H5, H6, bkR, bkA, hx']
def okSp (x : Spec) : Prop := x.After.length ≤ 32767
def okB (l : List Spec) : Prop := l.length ≤ 32767 ∧ ∀ x ∈ l, okSp x
/-- Whether something is so of all that some spec comes after. -/
def eachB (l : List Spec) (p : Int → Bool) : Bool := !(l.any fun x => x.After.any fun n => !p n)
theorem det_each (f : FuncId) (kn fr : List (Int × Int)) (l : List Spec) (p : Int → Bool) (h : ∀ x n, Det Try.prog f [bkA l, en n] (H6 f kn fr l x) (.bool (p n)) (H6 f kn fr l x)) (hl : okB l) :
    Det Try.prog 97 [bkA l, .fn f [bkA l] []] (H3 kn fr l) (.bool (eachB l p)) (H3 kn fr l) := by
  have hl' : l.length ≤ 9223372036854775807 := by have := hl.1; omega
  have hD : ∀ x ∈ l, okSp x := hl.2
  refine det_finK mixed0 (knows_cons (known_CfQ fun l' hl' hD' => det_CfS (H5 f kn fr l) (low5 f kn fr l) _ 4 (by simp [H5]) okSp _ (fun x hx => det_each_1 f kn fr l p h x hx) l' hl' hD') knows_nil) ok_batch_book_each 1 (by simp) (low3 kn fr l) rfl ?_
  simp [ic_batch_book_each, rs_batch_book_each, H3, H5, bkR, bkA, hl', eachB]
  exact hD
end Go.Proofs.Ytaimhgmakgbfaaa.Sx
/- Package batch: of, Order. No conditions: a kit of our own. -/
namespace Go.Proofs.Ytaimhgmakgbfaaa.Sx
open Go Go.RowKit
open Hp (mget mput mdel HpS)
set_option linter.unusedVariables false
set_option linter.unusedSimpArgs false

def knF (l : List Tsk) : List (Int × Int) := l.foldr (fun x m => mput m x.Sp.ID x.Status) []
def incr (m : List (Int × Int)) (x : Spec) : List (Int × Int) := mput m x.ID (Gr.lvOf m x.ID + 1)
def frF (l : List Spec) : List (Int × Int) := l.foldl incr []
theorem frF_take {l : List Spec} {i : Nat} (hi : i < l.length) {a : Spec} (ha : nth l i Spec.zero = a) : frF (l.take (i + 1)) = incr (frF (l.take i)) a := by
  have e : l.take (i + 1) = l.take i ++ [a] := by
    rw [List.take_add_one, List.getElem?_eq_getElem hi, ← ha, nth_get hi]; rfl
  rw [e]; simp [frF]
theorem knF_drop {l : List Tsk} {i : Nat} (hi : i < l.length) : knF (l.drop (l.length - (i + 1))) = mput (knF (l.drop (l.length - i))) (nth l (l.length - 1 - i) Tsk.zero).Sp.ID (nth l (l.length - 1 - i) Tsk.zero).Status := by
  have e := drop_nth (l := l) (i := l.length - (i + 1)) Tsk.zero (by omega)
  rw [e]
  have e2 : l.length - (i + 1) + 1 = l.length - i := by omega
  have e3 : l.length - 1 - i = l.length - (i + 1) := by omega
  rw [e2, e3]
  rfl
theorem det_bof (k : List Tsk) (l : List Spec) (hk : k.length ≤ 1073741824) (hl : l.length ≤ 1073741824) : Det Try.prog 94 [en k, en l] [] (bkA l) [.imap ((knF k).map ie), .imap ((frF l).map ie)] := by
  refine acall_of_vcQ mixed0 knows_nil ok_batch_of (by simp) (Q := fun e s => (e = .ret ∨ e = .normal) ∧ resp s rs_batch_of ∧ one (resv s rs_batch_of) = .agg [.map 1, .map 2, .view (l.map Cel.c)] ∧ ∃ o0 T, s.hp = o0 :: .imap ((knF k).map ie) :: .imap ((frF l).map ie) :: T) ?_ ?_
  · simp [ic_batch_of, rs_batch_of]
    refine LoopC.scanR Tsk.zero k (fun i (b : List (Int × Int)) => ⟨[(0, .view (k.map Cel.c)), (1, .view (l.map Cel.c)), (4, .ptr 0 0 0), (5, .ptr 3 0 0), (15, .int .i64 k.length), (16, .int .i64 i)], [.rows 3 [[.nilm, .nilm, .nils]], .imap (b.map ie), .imap [], .rows 3 [[.map 1, .map 2, .view (l.map Cel.c)]]]⟩)
      (fun i b r => eqL b (knF (k.drop (k.length - i)))) [] [0, 1, 2, 3] (by simp [atR, gOk, cvw]; try decide) (by simp [eqL, knF]) (fun i a r b hi ha hd hG => ?_) fun b hG => ?_
    · unfold eqL at hG
      have e := knF_drop hi
      have h1 : ((k.length : Int) - 1 - i).toNat = k.length - 1 - i := by omega
      have h2 : (0 : Int) ≤ (k.length : Int) - 1 - i := by omega
      have h3 : (k.length : Int) - 1 - i < k.length := by omega
      have h4 : k.length - 1 - i < k.length := by omega
      rw [← hG] at e
      generalize hx : nth k (k.length - 1 - i) Tsk.zero = x at *
      simp [hi, h1, h2, h3, h4, hx]
      refine ⟨by omega, by omega, by omega, by omega, mput b x.Sp.ID x.Status, ⟨[0, 1, 2, 3], by simp [atR, gOk, cvw] <;> decide⟩, e.symm⟩
    · unfold eqL at hG
      rw [Nat.sub_self, List.drop_zero] at hG
      subst hG
      simp
      refine LoopC.scanR Spec.zero l (fun i (b : List (Int × Int)) => ⟨[(4, .ptr 0 0 0), (5, .ptr 3 0 0), (35, .view (l.map Cel.c)), (36, .int .i64 l.length), (37, .int .i64 i)], [.rows 3 [[.nilm, .nilm, .nils]], .imap ((knF k).map ie), .imap (b.map ie), .rows 3 [[.map 1, .map 2, .view (l.map Cel.c)]]]⟩)
        (fun i b r => eqL b (frF (l.take i)) ∧ ∀ n, 0 ≤ Gr.lvOf b n ∧ Gr.lvOf b n ≤ i) [] [0, 1, 2, 3] (by simp [atR, gOk, cvw]; try decide) (by simp [eqL, frF, Gr.lvOf, mget]) (fun i a r b hi ha hd hG => ?_) fun b hG => ?_
      · obtain ⟨hG, hb⟩ := hG
        unfold eqL at hG
        have e := frF_take hi ha
        rw [← hG] at e
        have hba := hb a.ID
        have hlv : ∀ k, (mget b k).getD 0 = Gr.lvOf b k := fun _ => rfl
        simp [hi, ha, hlv]
        refine ⟨by omega, by omega, incr b a, ⟨[0, 1, 2, 3], by simp [atR, gOk, cvw, incr] <;> decide⟩, e.symm, lv_more hb⟩
      · obtain ⟨hG, hb⟩ := hG
        unfold eqL at hG
        rw [List.take_length] at hG
        subst hG
        simp
  · rintro e s ⟨he, hr, ho, o0, T, hh⟩
    have key : fin 0 rs_batch_of (fun y h => y = bkA l ∧ h = [.imap ((knF k).map ie), .imap ((frF l).map ie)]) .normal s := ⟨hr, bkA l, _, by
      rw [ho]
      refine Shed.weakR (g := [1, 2]) ⟨rfl, by simp, fun j hj => by omega, fun i j k hi hj => ?_, fun j i o' hj ho' _ => ?_⟩ (.agg rfl fun i a b h1 h2 => ?_)
      · rcases get2 hi with ⟨rfl, rfl⟩ | ⟨rfl, rfl⟩ <;> rcases get2 hj with ⟨rfl, h⟩ | ⟨rfl, h⟩ <;> first | rfl | omega
      · rcases get2 hj with ⟨rfl, rfl⟩ | ⟨rfl, rfl⟩
        · simp only [List.getElem?_cons_zero, Option.some.injEq] at ho'; subst ho'
          exact ⟨_, by rw [hh]; rfl, seenO_ie _⟩
        · simp only [List.getElem?_cons_succ, List.getElem?_cons_zero, Option.some.injEq] at ho'; subst ho'
          exact ⟨_, by rw [hh]; rfl, seenO_ie _⟩
      · match i with
        | 0 => cases h1; cases h2; exact .map (byG_mk rfl)
        | 1 => cases h1; cases h2; exact .map (byG_mk rfl)
        | 2 => cases h1; cases h2; exact (closed_viewc l).seen _ _
        | i + 3 => simp at h1, rfl, rfl⟩
    rcases he with rfl | rfl <;> exact key
/-- A book, made. -/
def cBof : Ctr := ⟨fun a H => match a with
  | [a, b] => (okA (List Tsk) [] a ∧ okA (List Spec) [] b) ∧ (de (List Tsk) [] a).length ≤ 1073741824 ∧ (de (List Spec) [] b).length ≤ 1073741824
  | _ => False, fun a H => match a with
  | [a, b] => .agg [.map H.length, .map (H.length + 1), .view ((de (List Spec) [] b).map Cel.c)]
  | _ => .any, fun a H => match a with
  | [a, b] => H ++ [.imap ((knF (de (List Tsk) [] a)).map ie), .imap ((frF (de (List Spec) [] b)).map ie)]
  | _ => H⟩
@[simp] theorem cBof_pre (a b : AV) (H : List AObj) : cBof.pre [a, b] H = ((okA (List Tsk) [] a ∧ okA (List Spec) [] b) ∧ (de (List Tsk) [] a).length ≤ 1073741824 ∧ (de (List Spec) [] b).length ≤ 1073741824) := rfl
@[simp] theorem cBof_val (a b : AV) (H : List AObj) : cBof.val [a, b] H = .agg [.map H.length, .map (H.length + 1), .view ((de (List Spec) [] b).map Cel.c)] := rfl
@[simp] theorem cBof_hp (a b : AV) (H : List AObj) : cBof.hp [a, b] H = H ++ [.imap ((knF (de (List Tsk) [] a)).map ie), .imap ((frF (de (List Spec) [] b)).map ie)] := rfl
theorem known_bof : Known Try.prog 94 cBof := fun args H hp => by
  match args, hp with
  | [a, b], ⟨⟨h1, h2⟩, h3, h4⟩ =>
    have hd := Det.own (det_bof _ _ h3 h4) (each_cons (okA_seen h1) (each_cons (okA_seen h2) each_nil)) (by
      simp only [bkA, lowD, List.mem_cons, List.mem_nil_iff, or_false]
      rintro x (rfl | rfl | rfl)
      · simp [lowD]
      · simp [lowD]
      · exact closed_viewc _) (fun o ho => by
      simp only [List.mem_cons, List.mem_nil_iff, or_false] at ho
      rcases ho with rfl | rfl
      · intro e he
        simp only [List.mem_map] at he
        obtain ⟨x, _, rfl⟩ := he
        exact .int _ _
      · intro e he
        simp only [List.mem_map] at he
        obtain ⟨x, _, rfl⟩ := he
        exact .int _ _) H
    simp only [List.map_cons, List.map_nil, shO, shv_ie, bkA, shv] at hd
    exact hd

/-! ### Order -/
def arcX (x : Spec) : List Arc := x.After.map fun n => ⟨n, x.ID⟩
def arcsOf (l : List Spec) : List Arc := l.flatMap arcX
def idsOf (l : List Spec) : List Int := l.map (·.ID)
theorem take_snoc {l : List Spec} {i : Nat} (hi : i < l.length) {a : Spec} (ha : nth l i Spec.zero = a) : l.take (i + 1) = l.take i ++ [a] := by
  rw [List.take_add_one, List.getElem?_eq_getElem hi, ← ha, nth_get hi]; rfl
theorem arcs_len : ∀ {l : List Spec}, (∀ x ∈ l, okSp x) → (arcsOf l).length ≤ l.length * 32767
  | [], h => by simp [arcsOf]
  | x :: l, h => by
    have ih := arcs_len (l := l) fun y hy => h y (List.mem_cons_of_mem _ hy)
    have hx : x.After.length ≤ 32767 := h x (by simp)
    have e : arcsOf (x :: l) = arcX x ++ arcsOf l := rfl
    rw [e, List.length_append]
    simp only [arcX, List.length_map, List.length_cons]
    omega
def cgOrderN : Ctr := N2 (fun (ids : List Int) (A : List Arc) => ids.length ≤ 1073741823 ∧ A.length ≤ 1073741823) ordV
theorem known_gOrderN : Known Try.prog 20 cgOrderN := known_N2 (fun ids A h => det_gOrder ids A h.1 h.2) fun ids A h => closed_ordV ids A
def bordV (l : List Spec) : AV := ordV (idsOf l) (arcsOf l)
theorem det_bOrder (l : List Spec) (hl : okB l) : Det Try.prog 48 [en l] [] (bordV l) [] := by
  have hl1 : l.length ≤ 1073741823 := by have := hl.1; omega
  refine det_finF mixed0 (knows_cons known_gOrderN knows_nil) ok_batch_Order 2 (by simp) ?_
  simp [ic_batch_Order, rs_batch_Order]
  refine LoopC.scanR Spec.zero l (fun i (b : List Int × List Arc) => ⟨[(4, bs 0 (b.1.map Cel.c)), (5, bs 1 (b.2.map Cel.c)), (10, .view (l.map Cel.c)), (11, .int .i64 l.length), (12, .int .i64 i)], [bob 1 (b.1.map Cel.c), bob 2 (b.2.map Cel.c)]⟩)
    (fun i b r => eqL b.1 (idsOf (l.take i)) ∧ eqL b.2 (arcsOf (l.take i))) ([], []) [0, 1] (by simp [atR, gOk, cvw]; try decide) (by simp [eqL, idsOf, arcsOf]) (fun i a r b hi ha hd hG => ?_) fun b hG => ?_
  · obtain ⟨ids, arcs⟩ := b
    simp only at hG
    obtain ⟨h1, h2⟩ := hG
    unfold eqL at h1 h2
    have hai : a ∈ l := mem_drop hd
    have hoa : a.After.length ≤ 32767 := hl.2 a hai
    have hts := take_snoc hi ha
    have hlen := arcs_len (l := l.take i) fun x hx => hl.2 x (List.mem_of_mem_take hx)
    have hil : (l.take i).length ≤ 32766 := by have := hl.1; simp; omega
    have hi1 : ids.length ≤ 32767 := by rw [h1]; unfold idsOf; rw [List.length_map]; omega
    have hi2 : arcs.length ≤ 1073676289 - 32767 := by
      rw [h2]
      have := Nat.mul_le_mul_right 32767 hil
      omega
    simp [hi, ha]
    refine ⟨by omega, ?_⟩
    refine LoopC.scanR (0 : Int) a.After (fun j (b : List Arc) => ⟨[(4, bs 0 ((ids ++ [a.ID]).map Cel.c)), (5, bs 1 (b.map Cel.c)), (7, .ptr 2 0 0), (10, .view (l.map Cel.c)), (11, .int .i64 l.length), (12, .int .i64 i), (22, .view (a.After.map Cel.c)), (23, .int .i64 a.After.length), (24, .int .i64 j)], [bob 1 ((ids ++ [a.ID]).map Cel.c), bob 2 (b.map Cel.c), .rows 9 [Cel.c a]]⟩)
      (fun j b r => eqL b (arcs ++ (a.After.take j).map fun n => ⟨n, a.ID⟩)) arcs [3, 1, 2] (by simp [atR, gOk, cvw]; try decide) (by simp [eqL]) (fun j n r2 b hj hn hd2 hG => ?_) fun b hG => ?_
    · unfold eqL at hG
      have hb : b.length ≤ 1073676289 - 32767 + j := by rw [hG]; simp; omega
      have hft : (a.After.take (j + 1)).map (fun n => (⟨n, a.ID⟩ : Arc)) = (a.After.take j).map (fun n => ⟨n, a.ID⟩) ++ [⟨n, a.ID⟩] := by rw [take_nth hj, hn]; simp
      simp [hj, hn]
      refine ⟨by omega, by omega, b ++ [⟨n, a.ID⟩], ⟨[0, 3, 2], by simp [atR, gOk, cvw] <;> decide⟩, ?_⟩
      show _ = _
      rw [← List.map_take, hft, hG, List.append_assoc]
    · unfold eqL at hG
      rw [List.take_length] at hG
      simp
      refine ⟨by omega, ids ++ [a.ID], b, ⟨[0, 1], by simp [atR, gOk, cvw] <;> decide⟩, ?_, ?_⟩
      · show _ = _
        rw [hts, h1]; simp [idsOf]
      · show _ = _
        rw [hts, hG, h2]; simp [arcsOf, arcX]
  · obtain ⟨ids, arcs⟩ := b
    simp only at hG
    obtain ⟨h1, h2⟩ := hG
    unfold eqL at h1 h2
    rw [List.take_length] at h1 h2
    have hi1 : ids.length ≤ 1073741823 := by rw [h1]; simp [idsOf]; omega
    have hi2 : arcs.length ≤ 1073741823 := by
      have := arcs_len hl.2
      have := Nat.mul_le_mul_right 32767 hl.1
      rw [h2]; omega
    unfold bordV
    rw [← h1, ← h2]
    have hcl := closed_ordV ids arcs
    cases ids with
    | nil =>
      cases arcs with
      | nil =>
        simp [cgOrderN, ordV]
        try rfl
      | cons y arcs =>
        simp at hi2
        simp [cgOrderN, ordV, hi2]
        try omega
    | cons x ids =>
      simp at hi1
      cases arcs with
      | nil =>
        simp [cgOrderN, ordV, hi1]
        try omega
      | cons y arcs =>
        simp at hi2
        simp [cgOrderN, ordV, hi1, hi2]
        try omega
def cbOrder : Ctr := V1 (fun l : List Spec => okB l) bordV
theorem known_bOrder : Known Try.prog 48 cbOrder := known_V1 (fun l h => det_bOrder l h) fun l h => closed_ordV _ _
end Go.Proofs.Ytaimhgmakgbfaaa.Sx
/- Package batch: Check, Free. No conditions: a kit of our own. -/
namespace Go.Proofs.Ytaimhgmakgbfaaa.Sx
open Go Go.RowKit
open Hp (mget mput mdel HpS)
set_option linter.unusedVariables false
set_option linter.unusedSimpArgs false

/-! ### Check -/
def cEach (H : List AObj) (l : List Spec) (kn fr : List (Int × Int)) : Ctr := ⟨fun a H' => match a with
  | [b, q] => b = bkA l ∧ (q = .fn 98 [bkA l] [] ∨ q = .fn 99 [bkA l] []) ∧ H' = H
  | _ => False, fun a H' => match a with
  | [b, .fn f _ _] => .bool (eachB l (if f = 98 then thereB kn fr else soundB kn))
  | _ => .any, fun a H' => H'⟩
@[simp] theorem cEach_pre (H : List AObj) (l : List Spec) (kn fr : List (Int × Int)) (b q : AV) (H' : List AObj) : (cEach H l kn fr).pre [b, q] H' = (b = bkA l ∧ (q = .fn 98 [bkA l] [] ∨ q = .fn 99 [bkA l] []) ∧ H' = H) := rfl
@[simp] theorem cEach_val (H : List AObj) (l : List Spec) (kn fr : List (Int × Int)) (b : AV) (f : FuncId) (cs fs : List AV) (H' : List AObj) : (cEach H l kn fr).val [b, .fn f cs fs] H' = .bool (eachB l (if f = 98 then thereB kn fr else soundB kn)) := rfl
@[simp] theorem cEach_hp (H : List AObj) (l : List Spec) (kn fr : List (Int × Int)) (a : List AV) (H' : List AObj) : (cEach H l kn fr).hp a H' = H' := rfl
theorem known_each (l : List Spec) (kn fr : List (Int × Int)) (hl : okB l) : Known Try.prog 97 (cEach (H3 kn fr l) l kn fr) := fun args H' hp => by
  match args, hp with
  | [b, q], ⟨h1, h2, h3⟩ =>
    subst h1 h3
    rcases h2 with rfl | rfl
    · exact det_each _ kn fr l _ (fun x n => det_there kn fr l x n) hl
    · exact det_each _ kn fr l _ (fun x n => det_sound kn fr l x n) hl
def firstErr : List Spec → Int
  | [] => 0
  | x :: l => if specErr x = 0 then firstErr l else specErr x
/-- Whether a batch may be admitted: 0, or what is wrong first. -/
def chkF (room : Int) (k : List Tsk) (l : List Spec) : Int :=
  if l = [] then 1 else if firstErr l ≠ 0 then firstErr l else if room < (k.length : Int) + l.length then 9 else if l.any (twiceB (knF k) (frF l)) then 6 else if !eachB l (thereB (knF k) (frF l)) then 7 else if !eachB l (soundB (knF k)) then 12
    else if !decide ((toldO (setL (idsOf l)) (arcsOf l)).length = (setL (idsOf l)).length) then 8 else 0
theorem det_bCheck (room : Int) (k : List Tsk) (l : List Spec) (hk : k.length ≤ 1073741824) (hl : okB l) : Det Try.prog 46 [en room, en k, en l] [] (.int .i64 (chkF room k l)) [] := by
  have hl1 : l.length ≤ 32767 := hl.1
  refine det_finF mixed0 (knows_cons known_TaskCheck (knows_cons known_bof (knows_cons known_bOrder (knows_cons (known_CfQ fun l' hl' hD => det_CfS (H3 (knF k) (frF l) l) (low3 _ _ l) 95 2 (by simp [H3]) (fun _ => True) (twiceB (knF k) (frF l)) (fun x _ => det_Check_1 _ _ l x) l' hl' hD) (knows_cons (known_each l (knF k) (frF l) hl) knows_nil))))) ok_batch_Check 1 (by simp) ?_
  by_cases hn : l = []
  · subst hn
    simp [ic_batch_Check, rs_batch_Check, chkF]
    refine BackC.gen (fun _ : Unit => ⟨[], []⟩) (fun _ => False) (fun _ => 0) (fun _ h => h.elim) ?_ (fun _ h => h.elim)
    simp
  · have hn0 : ¬ l.length = 0 := fun h => hn (List.length_eq_zero_iff.1 h)
    simp [ic_batch_Check, rs_batch_Check]
    refine BackC.scan Spec.zero l (fun i => ⟨[(0, .int .i64 room), (1, .view (k.map Cel.c)), (2, .view (l.map Cel.c)), (7, .int .i64 i)], []⟩) (fun r => firstErr l = firstErr r ∧ ∀ x ∈ r, x ∈ l) (by simp) ⟨rfl, fun _ h => h⟩ ?_ (fun i a r hi ha hG => ?_) fun hG => ?_
    · simp [hn]
    · obtain ⟨hG, hm⟩ := hG
      have hao : a.After.length ≤ 1073741824 := by
        have : a.After.length ≤ 32767 := hl.2 a (hm a (by simp))
        omega
      simp only [firstErr] at hG
      by_cases he : specErr a = 0
      · simp only [he, if_true] at hG
        simp [hi, ha, cTaskCheck, hao, he]
        exact ⟨by omega, hG, fun x hx => hm x (List.mem_cons_of_mem _ hx)⟩
      · simp only [he, if_false] at hG
        simp [hi, ha, cTaskCheck, hao, he, chkF, hn, hG]
    · have hf : firstErr l = 0 := hG.1
      have hl2 : l.length ≤ 9223372036854775807 := by omega
      have hl3 : l.length ≤ 1073741824 := by omega
      unfold chkF
      obtain ⟨t1, h1⟩ : ∃ t, l.any (twiceB (knF k) (frF l)) = t := ⟨_, rfl⟩
      obtain ⟨t2, h2⟩ : ∃ t, eachB l (thereB (knF k) (frF l)) = t := ⟨_, rfl⟩
      obtain ⟨t3, h3⟩ : ∃ t, eachB l (soundB (knF k)) = t := ⟨_, rfl⟩
      obtain ⟨t4, h4⟩ : ∃ t, decide ((toldO (setL (idsOf l)) (arcsOf l)).length = (setL (idsOf l)).length) = t := ⟨_, rfl⟩
      rw [h1, h2, h3, h4]
      simp [cbOrder, bordV, ordV, hk, hl, hl2, hl3, hn, hf, h1, h2, h3, h4, H3, bkR, bkA, vcLoose, heapsOf]
      refine ⟨by omega, ?_⟩
      by_cases hr : room < (k.length : Int) + l.length
      · have hr' : ¬ (k.length : Int) + l.length ≤ room := by omega
        simp [hr, hr']
      · have hr' : (k.length : Int) + l.length ≤ room := by omega
        cases t1 <;> cases t2 <;> cases t3 <;> cases t4 <;> simp [hr, hr']
def cbCheck : Ctr := C3 (fun (room : Int) (k : List Tsk) (l : List Spec) => k.length ≤ 1073741824 ∧ okB l) fun room k l => .int .i64 (chkF room k l)
theorem known_bCheck : Known Try.prog 46 cbCheck := known_C3 (fun r k l h => det_bCheck r k l h.1 h.2) fun r k l => flat_int _ _

/-! ### Free -/
def freeF (k : List Tsk) (l : List Spec) : List Int := idsOf (l.filter fun x => !(x.After.any fun n => decide ((mget (knF k) n).getD 0 ≠ 4)))
def FH (kn : List (Int × Int)) (H : List AObj) : Prop := ∃ T, H = .imap (kn.map ie) :: .imap [] :: bkR [] :: T ∧ ∀ o ∈ H, LowO H.length o
theorem det_Free_1 (kn : List (Int × Int)) (H : List AObj) (hH : FH kn H) (n : Int) : Det Try.prog 160 [en n, .ptr 2 0 0] H (.bool (decide ((mget kn n).getD 0 ≠ 4))) H := by
  obtain ⟨T, rfl, hl⟩ := hH
  refine det_finK mixed0 knows_nil ok_batch_Free_1 1 (by simp) hl rfl ?_
  simp [ic_batch_Free_1, rs_batch_Free_1, bkR]
def cFreeCf (kn : List (Int × Int)) : Ctr := ⟨fun a H => match a with
  | [a, q] => a = en (de (List Int) [] a) ∧ (de (List Int) [] a).length ≤ 9223372036854775807 ∧ q = .fn 160 [] [.ptr 2 0 0] ∧ FH kn H
  | _ => False, fun a H => match a with
  | [a, q] => .bool ((de (List Int) [] a).any fun n => decide ((mget kn n).getD 0 ≠ 4))
  | _ => .any, fun a H => H⟩
@[simp] theorem cFreeCf_pre (kn : List (Int × Int)) (a q : AV) (H : List AObj) : (cFreeCf kn).pre [a, q] H = (a = en (de (List Int) [] a) ∧ (de (List Int) [] a).length ≤ 9223372036854775807 ∧ q = .fn 160 [] [.ptr 2 0 0] ∧ FH kn H) := rfl
@[simp] theorem cFreeCf_val (kn : List (Int × Int)) (a q : AV) (H : List AObj) : (cFreeCf kn).val [a, q] H = .bool ((de (List Int) [] a).any fun n => decide ((mget kn n).getD 0 ≠ 4)) := rfl
@[simp] theorem cFreeCf_hp (kn : List (Int × Int)) (a : List AV) (H : List AObj) : (cFreeCf kn).hp a H = H := rfl
theorem known_FreeCf (kn : List (Int × Int)) : Known Try.prog 158 (cFreeCf kn) := fun args H hp => by
  match args, hp with
  | [a, q], ⟨h1, h2, h3, h4⟩ =>
    subst h3
    have hk : 2 < H.length := by obtain ⟨T, rfl, _⟩ := h4; simp
    have hlow := h4
    obtain ⟨T, _, hlow⟩ := hlow
    have := det_CfI H hlow 160 2 hk (fun _ => True) _ (fun n _ => det_Free_1 kn H h4 n) _ h2 fun _ _ => trivial
    rw [← h1] at this
    exact this
def freeX (kn : List (Int × Int)) (x : Spec) : Bool := !(x.After.any fun n => decide ((mget kn n).getD 0 ≠ 4))
theorem det_bFree (k : List Tsk) (l : List Spec) (hk : k.length ≤ 1073741824) (hl : okB l) : Det Try.prog 100 [en k, en l] [] (en (freeF k l)) [] := by
  refine det_finF mixed0 (knows_cons known_bof (knows_cons (known_FreeCf (knF k)) knows_nil)) ok_batch_Free 2 (by simp) ?_
  simp [ic_batch_Free, rs_batch_Free, hk, frF]
  have hfl : freeF k l = idsOf (l.filter (freeX (knF k))) := rfl
  rw [hfl]
  refine LoopC.scanR Spec.zero l (fun i (b : List Int) => ⟨[(5, .ptr 2 0 0), (6, bs 3 (b.map Cel.c)), (11, .view (l.map Cel.c)), (12, .int .i64 l.length), (13, .int .i64 i)], [.imap ((knF k).map ie), .imap [], bkR [], bob 1 (b.map Cel.c)]⟩)
    (fun i b r => eqL b (idsOf ((l.take i).filter (freeX (knF k))))) [] [0, 1, 2, 3] (by simp [atR, gOk, cvw, bkR]; try decide) (by simp [eqL, idsOf]) (fun i a r b hi ha hd hG => ?_) fun b hG => ?_
  · unfold eqL at hG
    have hai : a ∈ l := mem_drop hd
    have hoa : a.After.length ≤ 32767 := hl.2 a hai
    have hoa' : a.After.length ≤ 9223372036854775807 := by omega
    have hll : l.length ≤ 32767 := hl.1
    have hts := take_snoc hi ha
    have hb : b.length ≤ 32767 := by
      rw [hG]; unfold idsOf; rw [List.length_map]
      have := List.length_filter_le (freeX (knF k)) (l.take i)
      have h2 : (l.take i).length ≤ i := by simp; omega
      omega
    have hFH : ∀ o : AObj, FH (knF k) [.imap ((knF k).map ie), .imap [], bkR [], bob 1 (b.map Cel.c), .rows 9 [Cel.c a]] := fun _ => ⟨_, rfl, by simp [bkR]⟩
    have hF := hFH .dead
    simp only [c_Spec] at hF
    cases hx : freeX (knF k) a with
    | true =>
      have hx' : (a.After.any fun n => decide ((mget (knF k) n).getD 0 ≠ 4)) = false := by simpa [freeX] using hx
      simp only [ne_eq, decide_not] at hx'
      simp [hi, ha, hoa', hx', bkR]
      refine ⟨hF, by omega, by omega, b ++ [a.ID], ⟨[0, 1, 2, 5], by simp [atR, gOk, cvw, bkR] <;> decide⟩, ?_⟩
      show _ = _
      rw [hts, hG]; simp [idsOf, hx]
    | false =>
      have hx' : (a.After.any fun n => decide ((mget (knF k) n).getD 0 ≠ 4)) = true := by simpa [freeX] using hx
      simp only [ne_eq, decide_not] at hx'
      simp [hi, ha, hoa', hx', bkR]
      refine ⟨hF, by omega, b, ⟨[0, 1, 2, 3], by simp [atR, gOk, cvw, bkR] <;> decide⟩, ?_⟩
      show _ = _
      rw [hts, hG]; simp [idsOf, hx]
  · unfold eqL at hG
    rw [List.take_length] at hG
    rw [← hG]; simp
def cbFree : Ctr := V2 (fun (k : List Tsk) (l : List Spec) => k.length ≤ 1073741824 ∧ okB l) fun k l => en (freeF k l)
theorem known_bFree : Known Try.prog 100 cbFree := known_V2 (fun k l h => det_bFree k l h.1 h.2) fun k l h => closed_en _
end Go.Proofs.Ytaimhgmakgbfaaa.Sx
