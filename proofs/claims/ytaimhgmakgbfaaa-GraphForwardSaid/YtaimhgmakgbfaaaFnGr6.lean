/- Package graph: Order, Left, Levels. No conditions: a kit of our own. -/
import Derived.Test.YtaimhgmakgbfaaaFnGr5L
import Derived.Test.YtaimhgmakgbfaaaFnGr5V
namespace Go.Proofs.Ytaimhgmakgbfaaa.Sx
open Go Go.RowKit
open Hp (mget mput mdel HpS)
set_option linter.unusedVariables false
set_option linter.unusedSimpArgs false

theorem comp_sorted_setL (l : List Int) : comp (sorted l) = setL l := rise_ext (rise_comp (sorted_le l)) (rise_setL l) fun x => by rw [mem_comp, mem_sorted, mem_setL]
theorem ini_fold {fr : List (Int × Int)} : ∀ (l done : List Int) (h : HpS), (done ++ l).Nodup → Gr.Ini fr done h → ∃ h', Gr.Ini fr (done ++ l) h'
  | [], done, h, _, H => ⟨h, by simpa using H⟩
  | n :: l, done, h, hn, H => by
    have hnd : n ∉ done := fun hm => by
      rw [List.nodup_append] at hn
      exact hn.2.2 n hm n (by simp) rfl
    have := ini_fold l (done ++ [n]) _ (by simpa using hn) (Gr.ini_step H hnd)
    simpa using this
theorem relax_fold_fr (n : Int) : ∀ (r : List Int) (s : Gr.OrS), (r.foldl (Gr.relax n) s).fr = r.foldl decr s.fr
  | [], s => rfl
  | to :: r, s => by simp only [List.foldl_cons]; rw [relax_fold_fr n r]; rfl
theorem run_on {N : List Int} {A : List Arc} (hN : N.Pairwise (· < ·)) : ∀ (k : Nat) (done : List (Int × Int)) (s : Gr.OrS), N.length ≤ done.length + k → Gr.GInv N A done s → s.fr = relFr N A (done.map (·.1)) → ∃ done s, Gr.GInv N A done s ∧ s.h.1 = [] ∧ s.fr = relFr N A (done.map (·.1)) := fun k => by
  induction k with
  | zero =>
    intro done s hk h hf
    refine ⟨done, s, h, ?_, hf⟩
    by_cases hne : s.h.1 = []
    · exact hne
    · obtain ⟨n, p1, p2, p3, p4, p5, p6, p7, p8⟩ := Gr.ord_step hN h hne
      have := Gr.nodup_len (a := n :: done.map (·.1)) (N := N) (List.nodup_cons.2 ⟨p6, h.nd⟩) fun x hx => by
        rcases List.mem_cons.1 hx with e | e
        · rw [e]; exact p2
        · exact h.sub x e
      simp at this; omega
  | succ k ih =>
    intro done s hk h hf
    by_cases hne : s.h.1 = []
    · exact ⟨done, s, h, hne, hf⟩
    · obtain ⟨n, p1, p2, p3, p4, p5, p6, p7, p8⟩ := Gr.ord_step hN h hne
      have m := Gr.relax_all p2 p4 p5 _ _ (fun m hm => hm) p8
      have g := Gr.ord_fin h p2 p3 p6 p7 (h.lv n p2) m
      refine ih _ _ (by simp; omega) g ?_
      rw [relax_fold_fr]
      simp only [List.map_append, List.map_cons, List.map_nil, relFr_snoc]
      rw [← hf]
/-- What is so of those that are told. -/
theorem told_facts {N : List Int} (A : List Arc) (hN : N.Pairwise (· < ·)) : ∃ s, Gr.GInv N A (Gr.doneOf A (toldO N A)) s ∧ s.h.1 = [] ∧ s.fr = relFr N A (toldO N A) ∧ (Gr.doneOf A (toldO N A)).map (·.1) = toldO N A := by
  have hnd : N.Nodup := hN.imp fun h => by omega
  obtain ⟨h', H⟩ := ini_fold (fr := Gr.ofFr N A) N [] ([], []) (by simpa using hnd) (Gr.ini_nil _)
  obtain ⟨done, s, h1, h2, h3⟩ := run_on hN N.length [] _ (by simp) (Gr.ginv_begin (A := A) (by simpa using H)) rfl
  have ht := told_eq h1 h2
  have hd := h1.dn
  rw [ht] at h3 hd
  rw [← hd]
  exact ⟨s, h1, h2, h3, ht⟩
theorem told_nd {N : List Int} (A : List Arc) (hN : N.Pairwise (· < ·)) : (toldO N A).Nodup := by
  obtain ⟨s, h1, h2, h3, h4⟩ := told_facts A hN
  rw [← h4]; exact h1.nd
theorem told_sub {N : List Int} (A : List Arc) (hN : N.Pairwise (· < ·)) : ∀ n ∈ toldO N A, n ∈ N := by
  obtain ⟨s, h1, h2, h3, h4⟩ := told_facts A hN
  rw [← h4]; exact h1.sub
theorem told_len {N : List Int} (A : List Arc) (hN : N.Pairwise (· < ·)) : (toldO N A).length ≤ N.length := Gr.nodup_len (told_nd A hN) (told_sub A hN)
theorem told_fr {N : List Int} (A : List Arc) (hN : N.Pairwise (· < ·)) : ∀ m ∈ N, (Gr.lvOf (relFr N A (toldO N A)) m = 0 ↔ m ∈ toldO N A) ∧ 0 ≤ Gr.lvOf (relFr N A (toldO N A)) m := by
  obtain ⟨s, h1, h2, h3, h4⟩ := told_facts A hN
  have := (Gr.ord_end h1 h2).2
  rw [h4, h3] at this
  exact this
theorem told_end {N : List Int} (A : List Arc) (hN : N.Pairwise (· < ·)) : Gr.avail N A (toldO N A) = none ∧ Gr.GSeq N A (toldO N A) := by
  obtain ⟨s, h1, h2, h3, h4⟩ := told_facts A hN
  have := (Gr.ord_end h1 h2).1
  have h5 := h1.seq
  rw [h4] at this h5
  exact ⟨this, h5⟩

/-! ### Order -/
def cOrdO (N : List Int) (A : List Arc) (to : List (Int × List Int)) : Ctr := ⟨fun a H => a = [.ptr 1 0 0, .fn 76 [] [.ptr 0 0 0]] ∧ H = oH N to (Gr.ofFr N A), fun a H => .tup [], fun a H => oH1 N to (relFr N A (toldO N A)) (toldO N A)⟩
theorem known_OrdO (N : List Int) (A : List Arc) (to : List (Int × List Int)) (hto : ∀ n, Gr.toGet to n = Gr.tosL N A n) (hN : N.Pairwise (· < ·)) (hl : N.length ≤ 1073741823) (hA : A.length ≤ 1073741823) : Known Try.prog 75 (cOrdO N A to) := fun args H hp => by
  obtain ⟨rfl, rfl⟩ := hp
  exact det_order_O N A to hto hN hl hA
def ordV (ids : List Int) (A : List Arc) : AV := .tup [en (toldO (setL ids) A), .bool (decide ((toldO (setL ids) A).length = (setL ids).length))]
theorem det_gOrder (ids : List Int) (A : List Arc) (hi : ids.length ≤ 1073741823) (hA : A.length ≤ 1073741823) : Det Try.prog 20 [en ids, en A] [] (ordV ids A) [] := by
  have hc := comp_sorted_setL ids
  have hN := rise_setL ids
  have hl := setL_len ids
  have hi' : ids.length ≤ 1073741824 := by omega
  have hl' : (setL ids).length ≤ 1073741823 := by omega
  refine det_finF mixed0 (knows_cons known_Of (knows_cons (known_OrdO (setL ids) A (Gr.ofTo (setL ids) A) (Gr.ofTo_get _ A) hN hl' hA) knows_nil)) ok_graph_Order 2 (by simp) ?_
  simp [ic_graph_Order, rs_graph_Order, hi', hA, hc, cOrdO, oH, oH1, vcLoose, heapsOf, ordV]
def cgOrder : Ctr := V2 (fun (ids : List Int) (A : List Arc) => ids.length ≤ 1073741823 ∧ A.length ≤ 1073741823) ordV
theorem closed_ordV (ids : List Int) (A : List Arc) : Closed (ordV ids A) := closed_tupl (by
  intro a ha
  simp only [List.mem_cons, List.mem_nil_iff, or_false] at ha
  rcases ha with rfl | rfl
  · exact closed_en _
  · exact .bool _)
theorem known_gOrder : Known Try.prog 20 cgOrder := known_V2 (fun ids A h => det_gOrder ids A h.1 h.2) fun ids A h => closed_ordV ids A
/-- Alike, where simp must not put the one for the other. -/
def eqL {α : Type} (x y : α) : Prop := x = y
/-! ### Left -/
def cOrdL (N : List Int) (A : List Arc) (to : List (Int × List Int)) : Ctr := ⟨fun a H => a = [.ptr 0 0 0, .fn 79 [] []] ∧ H = oHL N to (Gr.ofFr N A), fun a H => .tup [], fun a H => oH1L N to (relFr N A (toldO N A))⟩
theorem known_OrdL (N : List Int) (A : List Arc) (to : List (Int × List Int)) (hto : ∀ n, Gr.toGet to n = Gr.tosL N A n) (hN : N.Pairwise (· < ·)) (hl : N.length ≤ 1073741823) (hA : A.length ≤ 1073741823) : Known Try.prog 75 (cOrdL N A to) := fun args H hp => by
  obtain ⟨rfl, rfl⟩ := hp
  exact det_order_L N A to hto hN hl hA
def leftO (N : List Int) (A : List Arc) : List Int := N.filter fun n => !decide (n ∈ toldO N A)
theorem filter_take {l : List Int} {i : Nat} (p : Int → Bool) (hi : i < l.length) : (l.take (i + 1)).filter p = (l.take i).filter p ++ if p (nth l i 0) = true then [nth l i 0] else [] := by
  rw [take_nth hi, List.filter_append]
  congr 1
  cases h : p (nth l i 0) <;> simp [h]
theorem det_gLeft (ids : List Int) (A : List Arc) (hi : ids.length ≤ 1073741823) (hA : A.length ≤ 1073741823) : Det Try.prog 23 [en ids, en A] [] (en (leftO (setL ids) A)) [] := by
  have hc := comp_sorted_setL ids
  have hN := rise_setL ids
  have hl := setL_len ids
  have hi' : ids.length ≤ 1073741824 := by omega
  have hl' : (setL ids).length ≤ 1073741823 := by omega
  have hf := told_fr A hN
  refine det_finF mixed0 (knows_cons known_Of (knows_cons (known_OrdL (setL ids) A (Gr.ofTo (setL ids) A) (Gr.ofTo_get _ A) hN hl' hA) knows_nil)) ok_graph_Left 2 (by simp) ?_
  simp [ic_graph_Left, rs_graph_Left, hi', hA, hc, cOrdL, oHL, oH1L, vcLoose, heapsOf]
  generalize setL ids = N at *
  generalize relFr N A (toldO N A) = fr at *
  refine LoopC.scanR (0 : Int) N (fun i (b : List Int) => ⟨[(5, bs 3 (b.map Cel.c)), (6, .ptr 0 0 0), (17, .view (N.map Cel.c)), (18, .int .i64 N.length), (19, .int .i64 i)], [.rows 3 [[.view (N.map Cel.c), .map 1, .map 2]], vto (Gr.ofTo N A), .imap (fr.map ie), bob 1 (b.map Cel.c)]⟩)
    (fun i b r => eqL b ((N.take i).filter fun n => !decide (n ∈ toldO N A))) [] [0, 1, 2, 3] (by simp [atR, gOk, cvw]) rfl (fun i a r b hi ha hd hG => ?_) fun b hG => ?_
  · unfold eqL at hG
    have ham : a ∈ N := by rw [← ha, nth_get hi]; exact List.getElem_mem _
    have hfa := hf a ham
    have hv : ∀ k, (mget fr k).getD 0 = Gr.lvOf fr k := fun _ => rfl
    have hb : b.length ≤ i := by
      rw [hG]
      have := List.length_filter_le (fun n => !decide (n ∈ toldO N A)) (N.take i)
      simp at this ⊢; omega
    have hft := filter_take (fun n => !decide (n ∈ toldO N A)) hi
    rw [ha, ← hG] at hft
    by_cases h0 : 0 < Gr.lvOf fr a
    · have hnt : a ∉ toldO N A := fun h => by have := hfa.1.2 h; omega
      simp only [hnt, decide_false, Bool.not_false, if_true] at hft
      simp [hi, ha, hv, h0]
      refine ⟨by omega, by omega, b ++ [a], ⟨[0, 1, 2, 4], by simp [atR, gOk, cvw] <;> decide⟩, hft.symm⟩
    · have hnt : a ∈ toldO N A := hfa.1.1 (by omega)
      simp only [hnt, decide_true, Bool.not_true, Bool.false_eq_true, if_false, List.append_nil] at hft
      simp [hi, ha, hv, h0]
      refine ⟨by omega, b, ⟨[0, 1, 2, 3], by simp [atR, gOk, cvw] <;> decide⟩, hft.symm⟩
  · unfold eqL at hG
    rw [List.take_length] at hG
    have e : leftO N A = b := hG.symm
    rw [e]; simp
def cgLeft : Ctr := V2 (fun (ids : List Int) (A : List Arc) => ids.length ≤ 1073741823 ∧ A.length ≤ 1073741823) fun ids A => en (leftO (setL ids) A)
theorem known_gLeft : Known Try.prog 23 cgLeft := known_V2 (fun ids A h => det_gLeft ids A h.1 h.2) fun ids A h => closed_en _
/-! ### Levels -/
def cOrdV (N : List Int) (A : List Arc) (to : List (Int × List Int)) : Ctr := ⟨fun a H => a = [.ptr 0 0 0, .fn 83 [] [.ptr 4 0 0]] ∧ H = oHV N to (Gr.ofFr N A), fun a H => .tup [], fun a H => oH1V N to (relFr N A (toldO N A)) (layO (Gr.doneOf A (toldO N A)))⟩
theorem known_OrdV (N : List Int) (A : List Arc) (to : List (Int × List Int)) (hto : ∀ n, Gr.toGet to n = Gr.tosL N A n) (hN : N.Pairwise (· < ·)) (hl : N.length ≤ 1073741823) (hA : A.length ≤ 1073741823) : Known Try.prog 75 (cOrdV N A to) := fun args H hp => by
  obtain ⟨rfl, rfl⟩ := hp
  exact det_order_V N A to hto hN hl hA
def lvlO (N : List Int) (A : List Arc) (n : Int) : Int := (mget (layO (Gr.doneOf A (toldO N A))) n).getD (-1)
def levelsO (N : List Int) (A : List Arc) : List Int := N.map (lvlO N A)
theorem det_gLevels (ids : List Int) (A : List Arc) (hi : ids.length ≤ 1073741823) (hA : A.length ≤ 1073741823) : Det Try.prog 27 [en ids, en A] [] (en (levelsO (setL ids) A)) [] := by
  have hc := comp_sorted_setL ids
  have hN := rise_setL ids
  have hl := setL_len ids
  have hi' : ids.length ≤ 1073741824 := by omega
  have hl' : (setL ids).length ≤ 1073741823 := by omega
  refine det_finF mixed0 (knows_cons known_Of (knows_cons (known_OrdV (setL ids) A (Gr.ofTo (setL ids) A) (Gr.ofTo_get _ A) hN hl' hA) knows_nil)) ok_graph_Levels 2 (by simp) ?_
  simp [ic_graph_Levels, rs_graph_Levels, hi', hA, hc, cOrdV, oHV, oH1V, vcLoose, heapsOf]
  generalize setL ids = N at *
  have hlv : ∀ n, lvlO N A n = (mget (layO (Gr.doneOf A (toldO N A))) n).getD (-1) := fun _ => rfl
  have hlo : levelsO N A = N.map (lvlO N A) := rfl
  generalize layO (Gr.doneOf A (toldO N A)) = all at *
  generalize relFr N A (toldO N A) = fr at *
  refine LoopC.scanR (0 : Int) N (fun i (b : List Int) => ⟨[(6, .ptr 4 0 0), (7, bs 5 (b.map Cel.c)), (22, .view (N.map Cel.c)), (23, .int .i64 N.length), (24, .int .i64 i)], [.rows 3 [[.view (N.map Cel.c), .map 1, .map 2]], vto (Gr.ofTo N A), .imap (fr.map ie), .imap (all.map ie), .rows 1 [[.map 3]], bob 1 (b.map Cel.c)]⟩)
    (fun i b r => eqL b ((N.take i).map (lvlO N A))) [] [0, 1, 2, 3, 4, 5] (by simp [atR, gOk, cvw] <;> decide) rfl (fun i a r b hi ha hd hG => ?_) fun b hG => ?_
  · unfold eqL at hG
    have hb : b.length ≤ i := by rw [hG]; simp; omega
    have hft : (N.take (i + 1)).map (lvlO N A) = b ++ [lvlO N A a] := by rw [take_nth hi, ha, hG]; simp
    have hla := hlv a
    cases hg : mget all a with
    | none =>
      rw [hg] at hla
      simp [hi, ha, hg]
      refine ⟨by omega, by omega, b ++ [-1], ⟨[0, 1, 2, 3, 4, 6], by simp [atR, gOk, cvw] <;> decide⟩, by show _ = _; rw [← List.map_take, hft, hla]; rfl⟩
    | some v =>
      rw [hg] at hla
      simp [hi, ha, hg]
      refine ⟨by omega, by omega, b ++ [v], ⟨[0, 1, 2, 3, 4, 6], by simp [atR, gOk, cvw] <;> decide⟩, by show _ = _; rw [← List.map_take, hft, hla]; rfl⟩
  · unfold eqL at hG
    rw [List.take_length, ← hlo] at hG
    rw [← hG]; simp
def cgLevels : Ctr := V2 (fun (ids : List Int) (A : List Arc) => ids.length ≤ 1073741823 ∧ A.length ≤ 1073741823) fun ids A => en (levelsO (setL ids) A)
theorem known_gLevels : Known Try.prog 27 cgLevels := known_V2 (fun ids A h => det_gLevels ids A h.1 h.2) fun ids A h => closed_en _
end Go.Proofs.Ytaimhgmakgbfaaa.Sx
