/- Small functions over lists of numbers and specs: what they give. No conditions: a kit of our own. -/
import Derived.Test.YtjpgnicgapkndaaTy7
import Derived.Test.YtjpgnicgapkndaaTy5
import Derived.Test.YtjpgnicgapkndaaIrA
namespace Go.Proofs.Ytjpgnicgapkndaa.Sx
open Go Go.RowKit
set_option linter.unusedVariables false
set_option linter.unusedSimpArgs false

theorem natCast_le {a b : Nat} : ((a : Int) ≤ (b : Int)) ↔ a ≤ b := Int.ofNat_le
/-- Whether a list rises. -/
def rises : List Int → Bool
  | a :: b :: l => decide (a < b) && rises (b :: l)
  | _ => true
theorem rises_cons2 (a b : Int) (l : List Int) : rises (a :: b :: l) = (decide (a < b) && rises (b :: l)) := rfl

def cIn : Ctr := C2 (fun (l : List Int) (n : Int) => l.length ≤ 9223372036854775807) fun l n => .bool (decide (n ∈ l))
theorem det_Ints (xs ys : List Int) (hl : xs.length ≤ 9223372036854775807) : Det Try.prog 18 [en xs, en ys] [] (.bool (decide (xs = ys))) [] := by
  refine det_finF mixed0 knows_nil ok_r01_Ints 1 (by simp) ?_
  simp [ic_r01_Ints, rs_r01_Ints]
  refine ⟨fun h e => h (by rw [e]), fun hlen => ?_⟩
  refine LoopC.scanB (0 : Int) xs (fun i (_ : Unit) => ⟨[(0, .view (xs.map Cel.c)), (1, .view (ys.map Cel.c)), (5, .int .i64 i)], []⟩) (fun i _ r => xs = ys ↔ r = ys.drop i) () (by simp) (by simp) (by simp) (fun i a r b hi ha hd hG => ?_) fun b hG => ?_
  · have hi' : i < ys.length := by omega
    have hy := drop_nth (0 : Int) hi'
    simp [hi, hi', ha]
    rw [hy] at hG
    refine ⟨fun e => ?_, fun e => ⟨by omega, ?_⟩⟩
    · rw [hG]; simp; intro e'; exact absurd e' e
    · rw [hG, e]; simp
  · simp
    rw [hG, List.drop_of_length_le (by omega)]
def cInts : Ctr := C2 (fun (xs ys : List Int) => xs.length ≤ 9223372036854775807) fun xs ys => .bool (decide (xs = ys))
theorem known_Ints : Known Try.prog 18 cInts := known_C2 (fun l n h => det_Ints l n h) fun l n => flat_bool _
theorem rises_drop {L : List Int} {j : Nat} (h : j + 1 < L.length) : rises (L.drop j) = (decide (nth L j 0 < nth L (j + 1) 0) && rises (L.drop (j + 1))) := by
  rw [drop_nth (0 : Int) (show j < L.length by omega), drop_nth (0 : Int) h]; rfl
theorem rises_drop_end {L : List Int} {j : Nat} (h : L.length ≤ j + 1) : rises (L.drop j) = true := by
  have hl : (L.drop j).length ≤ 1 := by rw [List.length_drop]; omega
  match hr : L.drop j, hl with
  | [], _ => rfl
  | [x], _ => rfl
def cR17Right : Ctr := C1 (fun l : List Int => l.length ≤ 9223372036854775807) fun l => .bool (rises l)
def cIdRight : Ctr := C1 (fun l : List Int => l.length ≤ 9223372036854775807) fun l => .bool (rises l)
def small (p : Pt) (m : Int) : Bool := decide (-m ≤ p.X) && decide (p.X ≤ m) && decide (-m ≤ p.Y) && decide (p.Y ≤ m)
theorem det_Small (p : Pt) (m : Int) (hm : -9223372036854775807 ≤ m) (hm' : m ≤ 9223372036854775807) : Det Try.prog 26 [en p, en m] [] (.bool (small p m)) [] := by
  refine det_finF mixed0 knows_nil ok_r03_Small 1 (by simp) ?_
  simp [ic_r03_Small, rs_r03_Small, small]
  omega
def cSmall : Ctr := C2 (fun (p : Pt) (m : Int) => -9223372036854775807 ≤ m ∧ m ≤ 9223372036854775807) fun p m => .bool (small p m)
theorem known_Small : Known Try.prog 26 cSmall := known_C2 (fun p m h => det_Small p m h.1 h.2) fun p m => flat_bool _

def idOk (n : Int) : Bool := decide (1 ≤ n) && decide (n ≤ 999)
def cID : Ctr := C1 (fun n : Int => True) fun n => .bool (idOk n)
/-- What is wrong with a spec first. -/
def specErr (x : Spec) : Int :=
  if !(idOk x.ID && decide (0 ≤ x.Prio) && decide (x.Prio ≤ 1048575) && small x.From 1000 && small x.To 1000) then 2
  else if decide (8 < x.After.length) || !rises x.After || decide (x.ID ∈ x.After) || !x.After.all idOk then 1 else 0
def cSpecErr : Ctr := C1 (fun x : Spec => x.After.length ≤ 9223372036854775807) fun x => .int .i64 (specErr x)
def cR22Few : Ctr := C2 (fun (l : List Spec) (m : Int) => l.length ≤ 9223372036854775807) fun l m => .bool (decide ((l.length : Int) ≤ m) && l.all fun x => decide (x.After.length ≤ 20))
def cR22Same : Ctr := C2 (fun x y : Spec => x.After.length ≤ 9223372036854775807) fun x y => .bool (decide (x = y))
def cR22Specs : Ctr := C2 (fun l k : List Spec => l.length ≤ 9223372036854775807 ∧ ∀ x ∈ l, x.After.length ≤ 9223372036854775807) fun x y => .bool (decide (x = y))
def inB (b : Bnd) : Bool := decide (b.least ≤ b.n) && decide (b.n ≤ b.most)
def cTaskAll : Ctr := C1 (fun l : List Bnd => l.length ≤ 9223372036854775807) fun l => .bool (l.all inB)
def cTaskId : Ctr := V1 (fun n : Int => True) fun n => en (Bnd.mk n 1 999)
def cTaskWide : Ctr := V1 (fun n : Int => True) fun n => en (Bnd.mk n (-1000) 1000)
def cIndex : Ctr := C2 (fun (l : List Int) (n : Int) => l.length ≤ 9223372036854775807) fun l n => .int .i64 (if n ∈ l then (l.idxOf n : Int) else -1)
def cContains : Ctr := C2 (fun (l : List Int) (n : Int) => l.length ≤ 9223372036854775807) fun l n => .bool (decide (n ∈ l))
def cTaskCheck : Ctr := C1 (fun x : Spec => x.After.length ≤ 1073741824) fun x => .int .i64 (specErr x)
end Go.Proofs.Ytjpgnicgapkndaa.Sx
