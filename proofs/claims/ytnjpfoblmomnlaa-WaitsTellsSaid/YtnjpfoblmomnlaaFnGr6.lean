/- Package graph: nodes told in order, by the closure of another caller. No conditions: a kit of our own. -/
import Derived.Test.YtnjpfoblmomnlaaFnGr4
namespace Go.Proofs.Ytnjpfoblmomnlaa.Sx
open Go Go.RowKit
open Hp (mget mput mdel HpS)
set_option linter.unusedVariables false
set_option linter.unusedSimpArgs false
set_option maxHeartbeats 8000000

end Go.Proofs.Ytnjpfoblmomnlaa.Sx
/- Package graph: nodes told in order, by the closure of another caller. No conditions: a kit of our own. -/
namespace Go.Proofs.Ytnjpfoblmomnlaa.Sx
open Go Go.RowKit
open Hp (mget mput mdel HpS)
set_option linter.unusedVariables false
set_option linter.unusedSimpArgs false

end Go.Proofs.Ytnjpfoblmomnlaa.Sx
/- Package graph: Order, Left, Levels. No conditions: a kit of our own. -/
namespace Go.Proofs.Ytnjpfoblmomnlaa.Sx
open Go Go.RowKit
open Hp (mget mput mdel HpS)
set_option linter.unusedVariables false
set_option linter.unusedSimpArgs false

theorem comp_sorted_setL (l : List Int) : comp (sorted l) = setL l := rise_ext (rise_comp (sorted_le l)) (rise_setL l) fun x => by rw [mem_comp, mem_sorted, mem_setL]
theorem ini_fold {fr : List (Int × Int)} : ∀ (l done : List Int) (h : HpS), (done ++ l).Nodup → Gr.Ini fr done h → ∃ h', Gr.Ini fr (done ++ l) h'
  | [], done, h, _, H => ⟨h, by simpa using H⟩
  | n :: l, done, h, hn, H => by
    have hnd : n ∉ done := fun hm => by
      rw [List.nodup_append] at hn
      exact hn.2.2 n hm n (by simp) rfl
    have := ini_fold l (done ++ [n]) _ (by simpa using hn) (Gr.ini_step H hnd)
    simpa using this
theorem relax_fold_fr (n : Int) : ∀ (r : List Int) (s : Gr.OrS), (r.foldl (Gr.relax n) s).fr = r.foldl decr s.fr
  | [], s => rfl
  | to :: r, s => by simp only [List.foldl_cons]; rw [relax_fold_fr n r]; rfl
theorem run_on {N : List Int} {A : List Arc} (hN : N.Pairwise (· < ·)) : ∀ (k : Nat) (done : List (Int × Int)) (s : Gr.OrS), N.length ≤ done.length + k → Gr.GInv N A done s → s.fr = relFr N A (done.map (·.1)) → ∃ done s, Gr.GInv N A done s ∧ s.h.1 = [] ∧ s.fr = relFr N A (done.map (·.1)) := fun k => by
  induction k with
  | zero =>
    intro done s hk h hf
    refine ⟨done, s, h, ?_, hf⟩
    by_cases hne : s.h.1 = []
    · exact hne
    · obtain ⟨n, p1, p2, p3, p4, p5, p6, p7, p8⟩ := Gr.ord_step hN h hne
      have := Gr.nodup_len (a := n :: done.map (·.1)) (N := N) (List.nodup_cons.2 ⟨p6, h.nd⟩) fun x hx => by
        rcases List.mem_cons.1 hx with e | e
        · rw [e]; exact p2
        · exact h.sub x e
      simp at this; omega
  | succ k ih =>
    intro done s hk h hf
    by_cases hne : s.h.1 = []
    · exact ⟨done, s, h, hne, hf⟩
    · obtain ⟨n, p1, p2, p3, p4, p5, p6, p7, p8⟩ := Gr.ord_step hN h hne
      have m := Gr.relax_all p2 p4 p5 _ _ (fun m hm => hm) p8
      have g := Gr.ord_fin h p2 p3 p6 p7 (h.lv n p2) m
      refine ih _ _ (by simp; omega) g ?_
      rw [relax_fold_fr]
      simp only [List.map_append, List.map_cons, List.map_nil, relFr_snoc]
      rw [← hf]
/-- What is so of those that are told. -/
theorem told_facts {N : List Int} (A : List Arc) (hN : N.Pairwise (· < ·)) : ∃ s, Gr.GInv N A (Gr.doneOf A (toldO N A)) s ∧ s.h.1 = [] ∧ s.fr = relFr N A (toldO N A) ∧ (Gr.doneOf A (toldO N A)).map (·.1) = toldO N A := by
  have hnd : N.Nodup := hN.imp fun h => by omega
  obtain ⟨h', H⟩ := ini_fold (fr := Gr.ofFr N A) N [] ([], []) (by simpa using hnd) (Gr.ini_nil _)
  obtain ⟨done, s, h1, h2, h3⟩ := run_on hN N.length [] _ (by simp) (Gr.ginv_begin (A := A) (by simpa using H)) rfl
  have ht := told_eq h1 h2
  have hd := h1.dn
  rw [ht] at h3 hd
  rw [← hd]
  exact ⟨s, h1, h2, h3, ht⟩
theorem told_nd {N : List Int} (A : List Arc) (hN : N.Pairwise (· < ·)) : (toldO N A).Nodup := by
  obtain ⟨s, h1, h2, h3, h4⟩ := told_facts A hN
  rw [← h4]; exact h1.nd
theorem told_sub {N : List Int} (A : List Arc) (hN : N.Pairwise (· < ·)) : ∀ n ∈ toldO N A, n ∈ N := by
  obtain ⟨s, h1, h2, h3, h4⟩ := told_facts A hN
  rw [← h4]; exact h1.sub
theorem told_len {N : List Int} (A : List Arc) (hN : N.Pairwise (· < ·)) : (toldO N A).length ≤ N.length := Gr.nodup_len (told_nd A hN) (told_sub A hN)
theorem told_end {N : List Int} (A : List Arc) (hN : N.Pairwise (· < ·)) : Gr.avail N A (toldO N A) = none ∧ Gr.GSeq N A (toldO N A) := by
  obtain ⟨s, h1, h2, h3, h4⟩ := told_facts A hN
  have := (Gr.ord_end h1 h2).1
  have h5 := h1.seq
  rw [h4] at this h5
  exact ⟨this, h5⟩

/-! ### Order -/
def cOrdO (N : List Int) (A : List Arc) (to : List (Int × List Int)) : Ctr := ⟨fun a H => a = [.ptr 1 0 0, .fn 209 [] [.ptr 0 0 0]] ∧ H = oH N to (Gr.ofFr N A), fun a H => .tup [], fun a H => oH1 N to (relFr N A (toldO N A)) (toldO N A)⟩
theorem known_OrdO (N : List Int) (A : List Arc) (to : List (Int × List Int)) (hto : ∀ n, Gr.toGet to n = Gr.tosL N A n) (hN : N.Pairwise (· < ·)) (hl : N.length ≤ 1073741823) (hA : A.length ≤ 1073741823) : Known Try.prog 208 (cOrdO N A to) := fun args H hp => by
  obtain ⟨rfl, rfl⟩ := hp
  exact det_order_O N A to hto hN hl hA
def ordV (ids : List Int) (A : List Arc) : AV := .tup [en (toldO (setL ids) A), .bool (decide ((toldO (setL ids) A).length = (setL ids).length))]
theorem det_gOrder (ids : List Int) (A : List Arc) (hi : ids.length ≤ 1073741823) (hA : A.length ≤ 1073741823) : Det Try.prog 118 [en ids, en A] [] (ordV ids A) [] := by
  have hc := comp_sorted_setL ids
  have hN := rise_setL ids
  have hl := setL_len ids
  have hi' : ids.length ≤ 1073741824 := by omega
  have hl' : (setL ids).length ≤ 1073741823 := by omega
  refine det_finF mixed0 (knows_cons known_Of (knows_cons (known_OrdO (setL ids) A (Gr.ofTo (setL ids) A) (Gr.ofTo_get _ A) hN hl' hA) knows_nil)) ok_graph_Order 2 (by simp) ?_
  simp [ic_graph_Order, rs_graph_Order, hi', hA, hc, cOrdO, oH, oH1, vcLoose, heapsOf, ordV]
theorem closed_ordV (ids : List Int) (A : List Arc) : Closed (ordV ids A) := closed_tupl (by
  intro a ha
  simp only [List.mem_cons, List.mem_nil_iff, or_false] at ha
  rcases ha with rfl | rfl
  · exact closed_en _
  · exact .bool _)
/-- Alike, where simp must not put the one for the other. -/
def eqL {α : Type} (x y : α) : Prop := x = y
/-! ### Left -/
def leftO (N : List Int) (A : List Arc) : List Int := N.filter fun n => !decide (n ∈ toldO N A)
theorem filter_take {l : List Int} {i : Nat} (p : Int → Bool) (hi : i < l.length) : (l.take (i + 1)).filter p = (l.take i).filter p ++ if p (nth l i 0) = true then [nth l i 0] else [] := by
  rw [take_nth hi, List.filter_append]
  congr 1
  cases h : p (nth l i 0) <;> simp [h]
/-! ### Levels -/
end Go.Proofs.Ytnjpfoblmomnlaa.Sx
