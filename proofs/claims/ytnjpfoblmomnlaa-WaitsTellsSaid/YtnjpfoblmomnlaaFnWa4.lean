/- Package waits: Right, Arcs, Ring, Chain, Ready. No conditions: a kit of our own. -/
import Derived.Test.YtnjpfoblmomnlaaFnWa2
namespace Go.Proofs.Ytnjpfoblmomnlaa.Sx
open Go Go.RowKit
open Hp (mget mput mdel HpS)
set_option linter.unusedVariables false
set_option linter.unusedSimpArgs false
set_option maxHeartbeats 8000000

def cy_lockRight : Ctr := C2 (fun (y : Yrd) (k : Lck) => okY y ∧ (∀ x ∈ y.Ls, gotB x) ∧ k.Wait.length ≤ 1073741824) fun y k => .bool (lockB y.Ls k)
theorem known_lockRight : Known Try.prog 115 cy_lockRight := known_C2 (fun y k h => det_lockRight y k h.1 h.2.1 h.2.2) fun y k => flat_bool _
def leasesB (K : List Lck) : Int → List Lse → Bool
  | _, [] => true
  | b, x :: r => (decide (b < x.Token) && leaseB K x) && leasesB K x.Token r
def locksB (L : List Lse) (K : List Lck) : Nat → List Lck → Bool
  | _, [] => true
  | i, k :: r => ((decide (i = 0) || decide ((nth K (i - 1) Lck.zero).ID < k.ID)) && lockB L k) && locksB L K (i + 1) r
def rightB (L : List Lse) (K : List Lck) : Bool := leasesB K 0 L && locksB L K 0 K
theorem leasesB_all {K : List Lck} : ∀ {L : List Lse} {b : Int}, leasesB K b L = true → ∀ x ∈ L, leaseB K x = true
  | [], _, _, x, hx => by cases hx
  | y :: L, b, h, x, hx => by
    simp only [leasesB, Bool.and_eq_true] at h
    rcases List.mem_cons.1 hx with rfl | hx
    · exact h.1.2
    · exact leasesB_all h.2 x hx
theorem leaseB_got {K : List Lck} {x : Lse} (h : leaseB K x = true) (hw : x.Want.length ≤ 1073741824) : gotB x := by
  simp only [leaseB, Bool.and_eq_true, decide_eq_true_eq] at h
  exact ⟨⟨h.1.1.2, h.1.2⟩, hw⟩
def okL1 (L : List Lse) : Prop := ∀ x ∈ L, x.Want.length ≤ 1073741824
def okLK (L : List Lse) (K : List Lck) : Prop := (L.length ≤ 1073741824 ∧ K.length ≤ 1073741824) ∧ okL1 L ∧ okK1 K
set_option maxHeartbeats 4000000 in
theorem det_wRight (L : List Lse) (K : List Lck) (h : okLK L K) : Det Try.prog 24 [en L, en K] [] (.bool (rightB L K)) [] := by
  refine det_finF mixed0 (knows_cons known_leaseRight (knows_cons known_lockRight knows_nil)) ok_waits_Right 1 (by simp) ?_
  obtain ⟨hl, hL, hK⟩ := h
  have hy : okY ⟨L, K⟩ := hl
  have hK' : okK1 (Yrd.mk L K).Ks := hK
  simp [ic_waits_Right, rs_waits_Right]
  refine LoopC.scanB Lse.zero L (fun i (b : Int) => ⟨[(1, .view (K.map Cel.c)), (5, .ptr 0 0 0), (6, .int .i64 b), (14, .view (L.map Cel.c)), (15, .int .i64 L.length), (16, .int .i64 i)], [.rows 2 [[.view (L.map Cel.c), .view (K.map Cel.c)]]]⟩) (fun i b r => leasesB K 0 L = leasesB K b r) 0 (by simp) (by simp) rfl (fun i a r b hi ha hd hG => ?_) fun b hG => ?_
  · have haL : a.Want.length ≤ 1073741824 := hL a (mem_drop hd)
    simp only [leasesB] at hG
    by_cases q1 : b < a.Token
    · have q1' : ¬ a.Token ≤ b := by omega
      cases q2 : leaseB K a with
      | true =>
        simp only [q1, q2, decide_true, Bool.true_and] at hG
        simp [hi, ha, cy_leaseRight, hy, hK', haL, q1, q1', q2, vcLoose, heapsOf]
        exact ⟨by omega, hG⟩
      | false =>
        simp only [q1, q2, decide_true, Bool.true_and, Bool.false_and] at hG
        simp [hi, ha, cy_leaseRight, hy, hK', haL, q1, q1', q2, vcLoose, heapsOf, rightB, hG]
    · have q1' : a.Token ≤ b := by omega
      simp only [q1, decide_false, Bool.false_and] at hG
      simp [hi, ha, cy_leaseRight, hy, hK', haL, q1, q1', vcLoose, heapsOf, rightB, hG]
  · have hall : leasesB K 0 L = true := hG
    have hg : ∀ x ∈ (Yrd.mk L K).Ls, gotB x := fun x hx => leaseB_got (leasesB_all hall x hx) (hL x hx)
    have hrb : rightB L K = locksB L K 0 K := by simp [rightB, hall]
    rw [hrb]
    simp
    refine LoopC.scanB Lck.zero K (fun i (_ : Unit) => ⟨[(1, .view (K.map Cel.c)), (5, .ptr 0 0 0), (33, .view (K.map Cel.c)), (34, .int .i64 K.length), (35, .int .i64 i)], [.rows 2 [[.view (L.map Cel.c), .view (K.map Cel.c)]]]⟩) (fun i _ r => locksB L K 0 K = locksB L K i r) () (by simp) (by simp) rfl (fun i a r b hi ha hd hG => ?_) fun b hG => ?_
    · have haK : a.Wait.length ≤ 1073741824 := hK a (mem_drop hd)
      simp only [locksB] at hG
      by_cases h0 : i = 0
      · subst h0
        cases q2 : lockB L a with
        | true =>
          simp only [q2, decide_true, Bool.true_and, Bool.true_or] at hG
          simp [hi, ha, cy_lockRight, hy, haK, q2, vcLoose, heapsOf]
          exact ⟨hg, hG⟩
        | false =>
          simp only [q2, decide_true, Bool.true_and, Bool.true_or, Bool.false_and] at hG
          simp [hi, ha, cy_lockRight, hy, haK, q2, vcLoose, heapsOf, hG]
          exact hg
      · have hi1 : ((i : Int) - 1).toNat = i - 1 := by omega
        have hi2 : (0 : Int) ≤ (i : Int) - 1 := by omega
        have hi3 : (i : Int) - 1 < K.length := by omega
        have hi4 : i - 1 < K.length := by omega
        have hi5 : 0 < i := by omega
        by_cases q1 : (nth K (i - 1) Lck.zero).ID < a.ID
        · have q1' : ¬ a.ID ≤ (nth K (i - 1) Lck.zero).ID := by omega
          cases q2 : lockB L a with
          | true =>
            simp only [q1, q2, decide_true, Bool.true_and, Bool.or_true] at hG
            simp [hi, ha, hi1, hi2, hi3, hi4, hi5, cy_lockRight, hy, hg, haK, q1, q1', q2, vcLoose, heapsOf]
            exact ⟨by omega, by omega, hg, by omega, hG⟩
          | false =>
            simp only [q1, q2, decide_true, Bool.true_and, Bool.or_true, Bool.false_and] at hG
            simp [hi, ha, hi1, hi2, hi3, hi4, hi5, cy_lockRight, hy, hg, haK, q1, q1', q2, vcLoose, heapsOf, hG]
            exact ⟨by omega, by omega, hg⟩
        · have q1' : a.ID ≤ (nth K (i - 1) Lck.zero).ID := by omega
          simp only [h0, q1, decide_false, Bool.or_false, Bool.false_and] at hG
          simp [hi, ha, hi1, hi2, hi3, hi4, hi5, cy_lockRight, hy, hg, haK, q1, q1', vcLoose, heapsOf, hG]
          omega
    · rw [hG]
      simp [locksB]
def cwRight : Ctr := C2 (fun (L : List Lse) (K : List Lck) => okLK L K) fun L K => .bool (rightB L K)
theorem known_wRight : Known Try.prog 24 cwRight := known_C2 (fun L K h => det_wRight L K h) fun L K => flat_bool _

/-! ### Arcs -/
def arcW (K : List Lck) (x : Lse) : List Arc := if 0 ≤ goalI K x ∧ (lkX K (goalI K x)).Holder ≠ 0 then [⟨x.Token, (lkX K (goalI K x)).Holder⟩] else []
def arcsW (K : List Lck) (L : List Lse) : List Arc := L.flatMap (arcW K)
theorem arcW_len (K : List Lck) (x : Lse) : (arcW K x).length ≤ 1 := by
  unfold arcW; split <;> simp
theorem arcsW_len (K : List Lck) : ∀ L : List Lse, (arcsW K L).length ≤ L.length
  | [] => by simp [arcsW]
  | x :: L => by
    have h1 := arcW_len K x
    have h2 := arcsW_len K L
    have e : arcsW K (x :: L) = arcW K x ++ arcsW K L := rfl
    rw [e, List.length_append, List.length_cons]; omega
theorem takeL {l : List Lse} {i : Nat} (hi : i < l.length) {a : Lse} (ha : nth l i Lse.zero = a) : l.take (i + 1) = l.take i ++ [a] := by
  rw [List.take_add_one, List.getElem?_eq_getElem hi, ← ha, nth_get hi]; rfl
theorem det_wArcs (L : List Lse) (K : List Lck) (h : okLK L K) : Det Try.prog 29 [en L, en K] [] (en (arcsW K L)) [] := by
  refine det_finF mixed0 (knows_cons known_y_goal knows_nil) ok_waits_Arcs 2 (by simp) ?_
  obtain ⟨hl, hL, hK⟩ := h
  have hy : okY ⟨L, K⟩ := hl
  simp [ic_waits_Arcs, rs_waits_Arcs]
  refine LoopC.scanR Lse.zero L (fun i (b : List Arc) => ⟨[(5, .ptr 0 0 0), (6, bs 1 (b.map Cel.c)), (14, .view (L.map Cel.c)), (15, .int .i64 L.length), (16, .int .i64 i)], [.rows 2 [[.view (L.map Cel.c), .view (K.map Cel.c)]], bob 2 (b.map Cel.c)]⟩) (fun i b r => eqL b (arcsW K (L.take i))) [] [0, 1] (by simp [atR, gOk, cvw] <;> decide) (by simp [eqL, arcsW]) (fun i a r b hi ha hd hG => ?_) fun b hG => ?_
  · unfold eqL at hG
    have haL : a.Want.length ≤ 9223372036854775807 := by have := hL a (mem_drop hd); omega
    have htk := takeL hi ha
    have hb : b.length ≤ i := by
      rw [hG]
      have := arcsW_len K (L.take i)
      simp at this; omega
    have hLl := hl.1
    by_cases q1 : 0 ≤ goalI K a
    · by_cases q2 : (atK Lck.zero K (goalI K a)).Holder = 0
      · have he : arcW K a = [] := by simp [arcW, lkX, q2]
        simp [hi, ha, cy_goal, hy, haL, gvV, q1, q2, vcLoose, heapsOf]
        refine ⟨by omega, b, ⟨[0, 1], by simp [atR, gOk, cvw] <;> decide⟩, ?_⟩
        show _ = _
        rw [htk, hG]; simp [arcsW, he]
      · have he : arcW K a = [⟨a.Token, (lkX K (goalI K a)).Holder⟩] := by simp [arcW, lkX, q1, q2]
        simp [hi, ha, cy_goal, hy, haL, gvV, q1, q2, vcLoose, heapsOf]
        refine ⟨by omega, by omega, b ++ [⟨a.Token, (lkX K (goalI K a)).Holder⟩], ⟨[0, 4], by simp [atR, gOk, cvw] <;> decide⟩, ?_⟩
        show _ = _
        rw [htk, hG]; simp [arcsW, he]
    · have he : arcW K a = [] := by simp [arcW, q1]
      simp [hi, ha, cy_goal, hy, haL, gvV, q1, vcLoose, heapsOf]
      refine ⟨by omega, b, ⟨[0, 1], by simp [atR, gOk, cvw] <;> decide⟩, ?_⟩
      show _ = _
      rw [htk, hG]; simp [arcsW, he]
  · unfold eqL at hG
    rw [List.take_length] at hG
    rw [← hG]; simp
def cwArcs : Ctr := V2 (fun (L : List Lse) (K : List Lck) => okLK L K) fun L K => en (arcsW K L)
theorem known_wArcs : Known Try.prog 29 cwArcs := known_V2 (fun L K h => det_wArcs L K h) fun L K h => closed_en _

/-! ### Ring -/
def ringIds (A : List Arc) : List Int := A.flatMap fun a => [a.From, a.To]
theorem ringIds_len : ∀ A : List Arc, (ringIds A).length = 2 * A.length
  | [] => rfl
  | a :: A => by
    have := ringIds_len A
    have e : ringIds (a :: A) = [a.From, a.To] ++ ringIds A := rfl
    rw [e, List.length_append, List.length_cons, this]; simp; omega
def ringB (A : List Arc) : Bool := !decide ((toldO (setL (ringIds A)) A).length = (setL (ringIds A)).length)
def cgOrderW : Ctr := N2 (fun (ids : List Int) (A : List Arc) => ids.length ≤ 1073741823 ∧ A.length ≤ 1073741823) ordV
theorem known_gOrderW : Known Try.prog 118 cgOrderW := known_N2 (fun ids A h => det_gOrder ids A h.1 h.2) fun ids A h => closed_ordV ids A
theorem takeA {l : List Arc} {i : Nat} (hi : i < l.length) {a : Arc} (ha : nth l i Arc.zero = a) : l.take (i + 1) = l.take i ++ [a] := by
  rw [List.take_add_one, List.getElem?_eq_getElem hi, ← ha, nth_get hi]; rfl
theorem det_wRing (L : List Lse) (K : List Lck) (h : okLK L K) (hs : L.length ≤ 536870911) : Det Try.prog 26 [en L, en K] [] (.bool (ringB (arcsW K L))) [] := by
  refine det_finF mixed0 (knows_cons known_wArcs (knows_cons known_gOrderW knows_nil)) ok_waits_Ring 1 (by simp) ?_
  have hA := arcsW_len K L
  simp [ic_waits_Ring, rs_waits_Ring, cwArcs, h]
  generalize arcsW K L = A at *
  refine LoopC.scanR Arc.zero A (fun i (b : List Int) => ⟨[(5, .view (A.map Cel.c)), (6, bs 0 (b.map Cel.c)), (14, .view (A.map Cel.c)), (15, .int .i64 A.length), (16, .int .i64 i)], [bob 1 (b.map Cel.c)]⟩) (fun i b r => eqL b (ringIds (A.take i))) [] [0] (by simp [atR, gOk, cvw] <;> decide) (by simp [eqL, ringIds]) (fun i a r b hi ha hd hG => ?_) fun b hG => ?_
  · unfold eqL at hG
    have htk := takeA hi ha
    have hb : b.length ≤ 2 * i := by
      rw [hG, ringIds_len]; simp; omega
    simp [hi, ha]
    refine ⟨by omega, by omega, b ++ [a.From, a.To], ⟨[2], by simp [atR, gOk, cvw] <;> decide⟩, ?_⟩
    show _ = _
    rw [htk, hG]; simp [ringIds]
  · unfold eqL at hG
    rw [List.take_length] at hG
    have hbl : b.length ≤ 1073741823 := by rw [hG, ringIds_len]; omega
    have hAl : A.length ≤ 1073741823 := by omega
    unfold ringB
    rw [← hG]
    cases b with
    | nil =>
      simp [cgOrderW, ordV, hAl]
      skip
    | cons x b =>
      simp at hbl
      simp [cgOrderW, ordV, hAl, hbl]
      skip
def cwRing : Ctr := C2 (fun (L : List Lse) (K : List Lck) => okLK L K ∧ L.length ≤ 536870911) fun L K => .bool (ringB (arcsW K L))
theorem known_wRing : Known Try.prog 26 cwRing := known_C2 (fun L K h => det_wRing L K h.1 h.2) fun L K => flat_bool _
end Go.Proofs.Ytnjpfoblmomnlaa.Sx
/- Package waits: Chain, Ready. No conditions: a kit of our own. -/
namespace Go.Proofs.Ytnjpfoblmomnlaa.Sx
open Go Go.RowKit
open Hp (mget mput mdel HpS)
set_option linter.unusedVariables false
set_option linter.unusedSimpArgs false

def chainF (A : List Arc) : Nat → List Int → Int → List Int
  | 0, out, _ => out
  | k + 1, out, t => if 0 ≤ frI A t ∧ (atK Arc.zero A (frI A t)).To ∉ out then chainF A k (out ++ [(atK Arc.zero A (frI A t)).To]) (atK Arc.zero A (frI A t)).To else out
def chainW (A : List Arc) (t : Int) : List Int := chainF A (A.length + 1) [t] t
/-- What is so of a chain that is being told. -/
structure ChI (A : List Arc) (t : Int) (out : List Int) (c : Int) : Prop where
  goes : chainW A t = chainF A (A.length + 2 - out.length) out c
  nd : out.Nodup
  sub : ∀ x ∈ out, x = t ∨ x ∈ A.map (·.To)
  one : 1 ≤ out.length
theorem ChI.len {A : List Arc} {t : Int} {out : List Int} {c : Int} (h : ChI A t out c) : out.length ≤ A.length + 1 := by
  have := Gr.nodup_len h.nd (N := t :: A.map (·.To)) fun x hx => by
    rcases h.sub x hx with e | e
    · simp [e]
    · exact List.mem_cons_of_mem _ e
  simpa using this
theorem ChI.begin (A : List Arc) (t : Int) : ChI A t [t] t := ⟨rfl, by simp, by simp, by simp⟩
theorem ChI.stop {A : List Arc} {t : Int} {out : List Int} {c : Int} (h : ChI A t out c) (hs : ¬ 0 ≤ frI A c ∨ (atK Arc.zero A (frI A c)).To ∈ out) : chainW A t = out := by
  have hl := h.len
  have e : A.length + 2 - out.length = (A.length + 1 - out.length) + 1 := by omega
  rw [h.goes, e]
  simp only [chainF]
  rw [if_neg]
  rintro ⟨h1, h2⟩
  rcases hs with h3 | h3
  · exact h3 h1
  · exact h2 h3
theorem ChI.next {A : List Arc} {t : Int} {out : List Int} {c : Int} (h : ChI A t out c) (h1 : 0 ≤ frI A c) (h2 : (atK Arc.zero A (frI A c)).To ∉ out) : ChI A t (out ++ [(atK Arc.zero A (frI A c)).To]) (atK Arc.zero A (frI A c)).To := by
  have hl := h.len
  have hm : atK Arc.zero A (frI A c) ∈ A := by
    rcases frI_b A c with e | ⟨e1, e2⟩
    · omega
    · exact atK_mem e1 e2
  refine ⟨?_, ?_, fun x hx => ?_, by simp⟩
  · have e : A.length + 2 - out.length = (A.length + 1 - out.length) + 1 := by omega
    rw [h.goes, e]
    simp only [chainF]
    rw [if_pos ⟨h1, h2⟩]
    congr 1
    simp <;> omega
  · rw [List.nodup_append]
    refine ⟨h.nd, by simp, fun a ha b hb e => ?_⟩
    simp at hb
    rw [e, hb] at ha
    exact h2 ha
  · rcases List.mem_append.1 hx with hx | hx
    · exact h.sub x hx
    · simp at hx
      exact .inr (List.mem_map.2 ⟨_, hm, hx.symm⟩)
set_option maxHeartbeats 4000000 in
theorem det_wChain (L : List Lse) (K : List Lck) (t : Int) (h : okLK L K) (hs : L.length ≤ 536870911) : Det Try.prog 32 [en L, en K, en t] [] (en (chainW (arcsW K L) t)) [] := by
  refine det_finF mixed0 (knows_cons known_wArcs (knows_cons known_IxArc (knows_cons known_Contains knows_nil))) ok_waits_Chain 2 (by simp) ?_
  have hA := arcsW_len K L
  have hl := h.1.1
  simp [ic_waits_Chain, rs_waits_Chain]
  have hsimp : (cwArcs.pre [en L, en K] []) := by simp [cwArcs, h]
  generalize hAe : arcsW K L = A at *
  refine BackC.genR (fun b : List Int × Int => ⟨[(5, .ptr 0 0 0), (7, .view (A.map Cel.c)), (8, .sl 1 0 b.1.length)], [.rows 1 [[.int .i64 b.2]], .rows 1 (b.1.map Cel.c)]⟩) (fun b => ChI A t b.1 b.2) (fun b => A.length + 2 - b.1.length) ?_ ?_
  · simp [cwArcs, h, hAe]
    exact ⟨[t], t, ⟨[0, 1], by simp [atR, gOk, cvw] <;> decide⟩, ChI.begin A t⟩
  · rintro ⟨out, c⟩ hI
    simp only at hI
    have hol := hI.len
    have hAl : A.length ≤ 9223372036854775807 := by omega
    have hol2 : out.length ≤ 9223372036854775807 := by omega
    have hol3 : out.length ≤ 1073741823 + 2 := by omega
    have hb := frI_b A c
    by_cases q1 : 0 ≤ frI A c
    · have q1' : frI A c < A.length := by omega
      have hat : atK Arc.zero A (frI A c) = nth A (frI A c).toNat Arc.zero := by unfold atK; rw [if_neg (by omega)]
      by_cases q2 : (atK Arc.zero A (frI A c)).To ∈ out
      · have hst := hI.stop (.inr q2)
        rw [hat] at q2
        rw [hst]
        simp [cIxArc, hAl, q1, q1', cContains, hol2, q2, vcLoose, heapsOf]
      · have hnx := hI.next q1 q2
        rw [hat] at q2 hnx
        have hnl := hnx.len
        simp only [List.length_append, List.length_singleton] at hnl
        simp [cIxArc, hAl, q1, q1', cContains, hol2, q2, vcLoose, heapsOf]
        refine ⟨by omega, out ++ [(nth A (frI A c).toNat Arc.zero).To], (nth A (frI A c).toNat Arc.zero).To, ⟨[0, 2], by simp [atR, gOk, cvw] <;> decide⟩, hnx, by simp; omega⟩
    · have hst := hI.stop (.inl q1)
      rw [hst]
      simp [cIxArc, hAl, q1, cContains, hol2, vcLoose, heapsOf]
def cwChain : Ctr := V3 (fun (L : List Lse) (K : List Lck) (t : Int) => okLK L K ∧ L.length ≤ 536870911) fun L K t => en (chainW (arcsW K L) t)
theorem known_wChain : Known Try.prog 32 cwChain := known_V3 (fun L K t h => det_wChain L K t h.1 h.2) fun L K t h => closed_en _

/-! ### Ready -/
def readyX (K : List Lck) (x : Lse) : Bool := decide (x.Got = x.Want.length) || (decide (0 ≤ goalI K x) && decide ((lkX K (goalI K x)).Holder = 0) && decide (0 < (lkX K (goalI K x)).Wait.length) && decide (nth (lkX K (goalI K x)).Wait 0 0 = x.Token))
def readyW (K : List Lck) (L : List Lse) : List Int := (L.filter (readyX K)).map (·.Token)
set_option maxHeartbeats 4000000 in
theorem det_wReady (L : List Lse) (K : List Lck) (h : okLK L K) : Det Try.prog 34 [en L, en K] [] (en (readyW K L)) [] := by
  refine det_finF mixed0 (knows_cons known_y_goal knows_nil) ok_waits_Ready 2 (by simp) ?_
  obtain ⟨hl, hL, hK⟩ := h
  have hy : okY ⟨L, K⟩ := hl
  simp [ic_waits_Ready, rs_waits_Ready]
  refine LoopC.scanR Lse.zero L (fun i (b : List Int) => ⟨[(5, .ptr 0 0 0), (6, bs 1 (b.map Cel.c)), (14, .view (L.map Cel.c)), (15, .int .i64 L.length), (16, .int .i64 i)], [.rows 2 [[.view (L.map Cel.c), .view (K.map Cel.c)]], bob 1 (b.map Cel.c)]⟩) (fun i b r => eqL b (readyW K (L.take i))) [] [0, 1] (by simp [atR, gOk, cvw] <;> decide) (by simp [eqL, readyW]) (fun i a r b hi ha hd hG => ?_) fun b hG => ?_
  · unfold eqL at hG
    have haL : a.Want.length ≤ 9223372036854775807 := by have := hL a (mem_drop hd); omega
    have htk := takeL hi ha
    have hb : b.length ≤ i := by
      rw [hG]; unfold readyW
      rw [List.length_map]
      have := List.length_filter_le (readyX K) (L.take i)
      simp at this ⊢; omega
    have hLl := hl.1
    have hgw := okK1_at hK (goalI K a)
    have hrx : readyX K a = (decide (a.Got = a.Want.length) || (decide (0 ≤ goalI K a) && decide ((lkX K (goalI K a)).Holder = 0) && decide (0 < (lkX K (goalI K a)).Wait.length) && decide (nth (lkX K (goalI K a)).Wait 0 0 = a.Token))) := rfl
    unfold lkX at hgw hrx
    generalize hX : atK Lck.zero K (goalI K a) = X at hgw hrx
    have done : ∀ (v : Bool), readyX K a = v → (if v then b ++ [a.Token] else b) = readyW K (L.take (i + 1)) := fun v hv => by
      rw [htk, hG]
      cases v <;> simp [readyW, hv]
    by_cases q0 : a.Got = a.Want.length
    · have hd1 := done true (by rw [hrx]; simp [q0])
      simp [hi, ha, cy_goal, hy, haL, gvV, hX, q0, vcLoose, heapsOf]
      refine ⟨by omega, by omega, b ++ [a.Token], ⟨[0, 4], by simp [atR, gOk, cvw] <;> decide⟩, by simpa [eqL] using hd1⟩
    · by_cases q1 : 0 ≤ goalI K a
      · by_cases q2 : X.Holder = 0
        · by_cases q3 : 0 < X.Wait.length
          · by_cases q4 : nth X.Wait 0 0 = a.Token
            · have hd1 := done true (by rw [hrx]; simp [q1, q2, q3, q4])
              simp [hi, ha, cy_goal, hy, haL, gvV, hX, q0, q1, q2, q3, q4, vcLoose, heapsOf]
              refine ⟨by omega, by omega, b ++ [a.Token], ⟨[0, 4], by simp [atR, gOk, cvw] <;> decide⟩, by simpa [eqL] using hd1⟩
            · have hd1 := done false (by rw [hrx]; simp [q0, q4])
              simp [hi, ha, cy_goal, hy, haL, gvV, hX, q0, q1, q2, q3, q4, vcLoose, heapsOf]
              refine ⟨by omega, b, ⟨[0, 1], by simp [atR, gOk, cvw] <;> decide⟩, by simpa [eqL] using hd1⟩
          · have hd1 := done false (by rw [hrx]; simp [q0, q3])
            have q3' : X.Wait = [] := List.length_eq_zero_iff.1 (by omega)
            simp [hi, ha, cy_goal, hy, haL, gvV, hX, q0, q1, q2, q3', vcLoose, heapsOf]
            refine ⟨by omega, b, ⟨[0, 1], by simp [atR, gOk, cvw] <;> decide⟩, by simpa [eqL] using hd1⟩
        · have hd1 := done false (by rw [hrx]; simp [q0, q2])
          simp [hi, ha, cy_goal, hy, haL, gvV, hX, q0, q1, q2, vcLoose, heapsOf]
          refine ⟨by omega, b, ⟨[0, 1], by simp [atR, gOk, cvw] <;> decide⟩, by simpa [eqL] using hd1⟩
      · have hd1 := done false (by rw [hrx]; simp [q0, q1])
        simp [hi, ha, cy_goal, hy, haL, gvV, hX, q0, q1, vcLoose, heapsOf]
        refine ⟨by omega, b, ⟨[0, 1], by simp [atR, gOk, cvw] <;> decide⟩, by simpa [eqL] using hd1⟩
  · unfold eqL at hG
    rw [List.take_length] at hG
    rw [← hG]; simp
def cwReady : Ctr := V2 (fun (L : List Lse) (K : List Lck) => okLK L K) fun L K => en (readyW K L)
theorem known_wReady : Known Try.prog 34 cwReady := known_V2 (fun L K h => det_wReady L K h) fun L K h => closed_en _
end Go.Proofs.Ytnjpfoblmomnlaa.Sx
