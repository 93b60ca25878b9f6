/- Package tallymanref21: the document's way of who waits. No conditions: a kit of our own. -/
import Derived.Test.YtnjpfoblmomnlaaFnWa4
import Derived.Test.YtnjpfoblmomnlaaFnGr9
import Derived.Test.YtnjpfoblmomnlaaFnGr10
import Derived.Test.YtnjpfoblmomnlaaFnGr11
namespace Go.Proofs.Ytnjpfoblmomnlaa.Sx
open Go Go.RowKit
open Hp (mget mput mdel HpS)
set_option linter.unusedVariables false
set_option linter.unusedSimpArgs false
set_option maxHeartbeats 8000000

theorem det_r21_Find (K : List Lck) (n : Int) (hl : K.length ≤ 9223372036854775807) : Det Try.prog 204 [en K, en n] [] (.int .i64 (idI K n)) [] := by
  refine det_finF mixed0 knows_nil ok_r21_Find 1 (by simp) ?_
  simp [ic_r21_Find, rs_r21_Find]
  refine LoopC.scanB Lck.zero K (fun i (_ : Unit) => ⟨[(0, .view (K.map Cel.c)), (1, .int .i64 n), (5, .int .i64 i)], []⟩) (fun i _ r => idI K n = fidx (fun k : Lck => decide (k.ID = n)) r i) () (by simp) (by simp) rfl (fun i a r b hi ha hd hG => ?_) fun b hG => ?_
  · rw [hG]
    by_cases h : a.ID = n
    · simp [hi, ha, fidx, h]
    · simp [hi, ha, fidx, h]
      omega
  · rw [hG]
    simp [fidx]
def cR21Find : Ctr := C2 (fun (K : List Lck) (n : Int) => K.length ≤ 9223372036854775807) fun K n => .int .i64 (idI K n)
theorem known_R21Find : Known Try.prog 204 cR21Find := known_C2 (fun K n h => det_r21_Find K n h) fun K n => flat_int _ _
theorem det_r21_of (L : List Lse) (n : Int) (hl : L.length ≤ 9223372036854775807) : Det Try.prog 205 [en L, en n] [] (.int .i64 (toI L n)) [] := by
  refine det_finF mixed0 knows_nil ok_r21_of 1 (by simp) ?_
  simp [ic_r21_of, rs_r21_of]
  refine LoopC.scanB Lse.zero L (fun i (_ : Unit) => ⟨[(0, .view (L.map Cel.c)), (1, .int .i64 n), (5, .int .i64 i)], []⟩) (fun i _ r => toI L n = fidx (fun x : Lse => decide (x.Token = n)) r i) () (by simp) (by simp) rfl (fun i a r b hi ha hd hG => ?_) fun b hG => ?_
  · rw [hG]
    by_cases h : a.Token = n
    · simp [hi, ha, fidx, h]
    · simp [hi, ha, fidx, h]
      omega
  · rw [hG]
    simp [fidx]
def cR21Of : Ctr := C2 (fun (L : List Lse) (n : Int) => L.length ≤ 9223372036854775807) fun L n => .int .i64 (toI L n)
theorem known_R21Of : Known Try.prog 205 cR21Of := known_C2 (fun L n h => det_r21_of L n h) fun L n => flat_int _ _
theorem det_r21_times (l : List Int) (n : Int) (hl : l.length ≤ 9223372036854775807) : Det Try.prog 206 [en l, en n] [] (.int .i64 (l.count n)) [] := by
  refine det_finF mixed0 knows_nil ok_r21_times 1 (by simp) ?_
  simp [ic_r21_times, rs_r21_times]
  refine LoopC.scanB (0 : Int) l (fun i (k : Nat) => ⟨[(0, .view (l.map Cel.c)), (1, .int .i64 n), (5, .int .i64 k), (6, .int .i64 i)], []⟩) (fun i k r => k ≤ i ∧ l.count n = k + r.count n) 0 (by simp) (by simp) ⟨Nat.le_refl _, by simp⟩ (fun i a r k hi ha hd hG => ?_) fun k hG => ?_
  · obtain ⟨h1, h2⟩ := hG
    rw [List.count_cons] at h2
    by_cases h : a = n
    · simp [h] at h2
      simp [hi, ha, h]
      exact ⟨by omega, by omega, k + 1, by simp, by omega, by omega⟩
    · simp [h] at h2
      simp [hi, ha, h]
      exact ⟨by omega, by omega, by omega⟩
  · obtain ⟨h1, h2⟩ := hG
    simp at h2
    simp [h2]
def cR21Times : Ctr := C2 (fun (l : List Int) (n : Int) => l.length ≤ 9223372036854775807) fun l n => .int .i64 (l.count n)
theorem known_R21Times : Known Try.prog 206 cR21Times := known_C2 (fun l n h => det_r21_times l n h) fun l n => flat_int _ _
theorem det_r21_Waits (x : Lse) (K : List Lck) (hK : K.length ≤ 9223372036854775807) (hx : x.Want.length ≤ 9223372036854775807) : Det Try.prog 121 [en x, en K] [] (.int .i64 (goalI K x)) [] := by
  refine det_finF mixed0 (knows_cons known_R21Find knows_nil) ok_r21_Waits 1 (by simp) ?_
  unfold goalI
  by_cases h0 : x.Got < 0
  · simp [ic_r21_Waits, rs_r21_Waits, h0]
  · by_cases h1 : (x.Want.length : Int) ≤ x.Got
    · simp [ic_r21_Waits, rs_r21_Waits, h0, h1]
    · have h2 : x.Got < x.Want.length := by omega
      have h3 : 0 ≤ x.Got := by omega
      simp [ic_r21_Waits, rs_r21_Waits, h0, h1, h2, h3, cR21Find, hK]
def cR21Waits : Ctr := C2 (fun (x : Lse) (K : List Lck) => K.length ≤ 9223372036854775807 ∧ x.Want.length ≤ 9223372036854775807) fun x K => .int .i64 (goalI K x)
theorem known_R21Waits : Known Try.prog 121 cR21Waits := known_C2 (fun x K h => det_r21_Waits x K h.1 h.2) fun x K => flat_int _ _
theorem det_r21_next (A : List Arc) (t : Int) (hl : A.length ≤ 9223372036854775807) : Det Try.prog 125 [en A, en t] [] (if 0 ≤ frI A t then .tup [.int .i64 (atK Arc.zero A (frI A t)).To, .bool true] else .tup [.int .i64 0, .bool false]) [] := by
  refine det_finF mixed0 knows_nil ok_r21_next 1 (by simp) ?_
  simp [ic_r21_next, rs_r21_next]
  refine LoopC.scanB Arc.zero A (fun i (_ : Unit) => ⟨[(0, .view (A.map Cel.c)), (1, .int .i64 t), (6, .int .i64 i)], []⟩) (fun i _ r => frI A t = fidx (fun a : Arc => decide (a.From = t)) r i) () (by simp) (by simp) rfl (fun i a r b hi ha hd hG => ?_) fun b hG => ?_
  · by_cases h : a.From = t
    · have e : frI A t = i := by rw [hG]; simp [fidx, h]
      rw [e]
      simp [hi, ha, h, atK]
    · have e : frI A t = fidx (fun a : Arc => decide (a.From = t)) r (i + 1) := by rw [hG]; simp [fidx, h]
      simp [hi, ha, h, e]
      omega
  · have e : frI A t = -1 := by rw [hG]; simp [fidx]
    rw [e]
    simp
def nextV (A : List Arc) (t : Int) : AV := if 0 ≤ frI A t then .tup [.int .i64 (atK Arc.zero A (frI A t)).To, .bool true] else .tup [.int .i64 0, .bool false]
def cR21Next : Ctr := C2 (fun (A : List Arc) (t : Int) => A.length ≤ 9223372036854775807) nextV
theorem known_R21Next : Known Try.prog 125 cR21Next := known_C2 (fun A t h => det_r21_next A t h) fun A t => flat_ite (flat_tup (by simp [flat_int, flat_bool])) (flat_tup (by simp [flat_int, flat_bool]))
def fewW (L : List Lse) (K : List Lck) : Bool := (decide (L.length ≤ 30) && decide (K.length ≤ 40)) && (L.all (fun x => decide (x.Want.length ≤ 40)) && K.all (fun k => decide (k.Wait.length ≤ 40)))
theorem det_r21_Few (L : List Lse) (K : List Lck) : Det Try.prog 22 [en L, en K] [] (.bool (fewW L K)) [] := by
  refine det_finF mixed0 knows_nil ok_r21_Few 1 (by simp) ?_
  have e : fewW L K = ((decide (L.length ≤ 30) && decide (K.length ≤ 40)) && (L.all (fun x => decide (x.Want.length ≤ 40)) && K.all (fun k => decide (k.Wait.length ≤ 40)))) := rfl
  rw [e]
  by_cases q1 : L.length ≤ 30
  · by_cases q2 : K.length ≤ 40
    · have q1' : ¬ 30 < L.length := by omega
      have q2' : ¬ 40 < K.length := by omega
      simp [ic_r21_Few, rs_r21_Few, q1, q2, q1', q2']
      generalize hP : (K.all fun k => decide (k.Wait.length ≤ 40)) = P
      refine LoopC.scan Lse.zero L (fun i => ⟨[(0, .view (L.map Cel.c)), (1, .view (K.map Cel.c)), (5, .int .i64 i)], []⟩) (fun r => (L.all fun x => decide (x.Want.length ≤ 40)) = r.all fun x => decide (x.Want.length ≤ 40)) (by simp) (by simp) rfl (fun i a r hi ha hG => ?_) fun hG => ?_
      · rw [hG]
        by_cases q3 : a.Want.length ≤ 40
        · have q3' : ¬ 40 < a.Want.length := by omega
          simp [hi, ha, q3, q3']
          omega
        · have q3' : 40 < a.Want.length := by omega
          simp [hi, ha, q3, q3']
      · rw [hG]
        simp
        refine LoopC.scan Lck.zero K (fun i => ⟨[(1, .view (K.map Cel.c)), (6, .int .i64 i)], []⟩) (fun r => P = r.all fun x => decide (x.Wait.length ≤ 40)) (by simp) (by simp) hP.symm (fun i a r hi ha hG => ?_) fun hG => ?_
        · rw [hG]
          by_cases q3 : a.Wait.length ≤ 40
          · have q3' : ¬ 40 < a.Wait.length := by omega
            simp [hi, ha, q3, q3']
            omega
          · have q3' : 40 < a.Wait.length := by omega
            simp [hi, ha, q3, q3']
        · rw [hG]
          simp
    · have q1' : ¬ 30 < L.length := by omega
      have q2' : 40 < K.length := by omega
      simp [ic_r21_Few, rs_r21_Few, q1, q2, q1', q2']
  · have q1' : 30 < L.length := by omega
    simp [ic_r21_Few, rs_r21_Few, q1, q1']
def cR21Few : Ctr := C2 (fun (L : List Lse) (K : List Lck) => True) fun L K => .bool (fewW L K)
theorem known_R21Few : Known Try.prog 22 cR21Few := known_C2 (fun L K h => det_r21_Few L K) fun L K => flat_bool _
theorem det_r21_Arrows (A B : List Arc) (hl : A.length ≤ 9223372036854775807) : Det Try.prog 28 [en A, en B] [] (.bool (decide (A = B))) [] := by
  refine det_finF mixed0 knows_nil ok_r21_Arrows 1 (by simp) ?_
  by_cases hlen : A.length = B.length
  · simp [ic_r21_Arrows, rs_r21_Arrows, hlen]
    refine LoopC.scanB Arc.zero A (fun i (_ : Unit) => ⟨[(0, .view (A.map Cel.c)), (1, .view (B.map Cel.c)), (5, .int .i64 i)], []⟩) (fun i _ r => decide (A = B) = decide (r = B.drop i)) () (by simp) (by simp) (by simp) (fun i a r b hi ha hd hG => ?_) fun b hG => ?_
    · rw [hG]
      have hiB : i < B.length := by omega
      rw [drop_nth Arc.zero hiB]
      generalize hy : nth B i Arc.zero = y
      by_cases h1 : a.From = y.From
      · by_cases h2 : a.To = y.To
        · have e : a = y := by cases a; cases y; simp_all
          simp [hi, hiB, ha, hy, h1, h2, e]
          omega
        · have e : a ≠ y := fun e => h2 (by rw [e])
          simp [hi, hiB, ha, hy, h1, h2, e]
      · have e : a ≠ y := fun e => h1 (by rw [e])
        simp [hi, hiB, ha, hy, h1, e]
    · rw [hG, hlen]
      simp
      omega
  · have e : A ≠ B := fun e => hlen (by rw [e])
    simp [ic_r21_Arrows, rs_r21_Arrows, hlen, e]
def cR21Arrows : Ctr := C2 (fun (A B : List Arc) => A.length ≤ 9223372036854775807) fun A B => .bool (decide (A = B))
theorem known_R21Arrows : Known Try.prog 28 cR21Arrows := known_C2 (fun A B h => det_r21_Arrows A B h) fun A B => flat_bool _
end Go.Proofs.Ytnjpfoblmomnlaa.Sx
/- Package tallymanref21: arcs, rings, chains, who is ready. No conditions: a kit of our own. -/
namespace Go.Proofs.Ytnjpfoblmomnlaa.Sx
open Go Go.RowKit
open Hp (mget mput mdel HpS)
set_option linter.unusedVariables false
set_option linter.unusedSimpArgs false

theorem det_r21_Arcs (L : List Lse) (K : List Lck) (h : okLK L K) : Det Try.prog 30 [en L, en K] [] (en (arcsW K L)) [] := by
  refine det_finF mixed0 (knows_cons known_R21Waits knows_nil) ok_r21_Arcs 2 (by simp) ?_
  obtain ⟨hl, hL, hK⟩ := h
  have hKl : K.length ≤ 9223372036854775807 := by have := hl.2; omega
  simp [ic_r21_Arcs, rs_r21_Arcs]
  refine LoopC.scanR Lse.zero L (fun i (b : List Arc) => ⟨[(0, .view (L.map Cel.c)), (1, .view (K.map Cel.c)), (5, bs 0 (b.map Cel.c)), (6, .int .i64 i)], [bob 2 (b.map Cel.c)]⟩) (fun i b r => eqL b (arcsW K (L.take i))) [] [0] (by simp [atR, gOk, cvw] <;> decide) (by simp [eqL, arcsW]) (fun i a r b hi ha hd hG => ?_) fun b hG => ?_
  · unfold eqL at hG
    have haL : a.Want.length ≤ 9223372036854775807 := by have := hL a (mem_drop hd); omega
    have htk := takeL hi ha
    have hb : b.length ≤ i := by
      rw [hG]
      have := arcsW_len K (L.take i)
      simp at this; omega
    have hLl := hl.1
    have hgb := goalI_b K a
    by_cases q1 : 0 ≤ goalI K a
    · have q1' : goalI K a < K.length := by omega
      have hat : atK Lck.zero K (goalI K a) = nth K (goalI K a).toNat Lck.zero := by unfold atK; rw [if_neg (by omega)]
      by_cases q2 : (nth K (goalI K a).toNat Lck.zero).Holder = 0
      · have he : arcW K a = [] := by simp [arcW, lkX, hat, q2]
        simp [hi, ha, cR21Waits, hKl, haL, q1, q1', q2, vcLoose, heapsOf]
        refine ⟨by omega, b, ⟨[0], by simp [atR, gOk, cvw] <;> decide⟩, ?_⟩
        show _ = _
        rw [htk, hG]; simp [arcsW, he]
      · have he : arcW K a = [⟨a.Token, (nth K (goalI K a).toNat Lck.zero).Holder⟩] := by simp [arcW, lkX, hat, q1, q2]
        simp [hi, ha, cR21Waits, hKl, haL, q1, q1', q2, vcLoose, heapsOf]
        refine ⟨by omega, by omega, b ++ [⟨a.Token, (nth K (goalI K a).toNat Lck.zero).Holder⟩], ⟨[1], by simp [atR, gOk, cvw] <;> decide⟩, ?_⟩
        show _ = _
        rw [htk, hG]; simp [arcsW, he]
    · have he : arcW K a = [] := by simp [arcW, q1]
      simp [hi, ha, cR21Waits, hKl, haL, q1, vcLoose, heapsOf]
      refine ⟨by omega, b, ⟨[0], by simp [atR, gOk, cvw] <;> decide⟩, ?_⟩
      show _ = _
      rw [htk, hG]; simp [arcsW, he]
  · unfold eqL at hG
    rw [List.take_length] at hG
    rw [← hG]; simp
def cR21Arcs : Ctr := V2 (fun (L : List Lse) (K : List Lck) => okLK L K) fun L K => en (arcsW K L)
theorem known_R21Arcs : Known Try.prog 30 cR21Arcs := known_V2 (fun L K h => det_r21_Arcs L K h) fun L K h => closed_en _
theorem ringB_left (A : List Arc) : ringB A = decide (0 < (leftO (setL (ringIds A)) A).length) := by
  have := told_left A (rise_setL (ringIds A))
  unfold ringB
  rw [Bool.eq_iff_iff]
  simp
  omega
def cR16LeftN : Ctr := N2 (fun (ids : List Int) (A : List Arc) => ids.length ≤ 536870912 ∧ A.length ≤ 1073741823) fun ids A => en (leftO (setL ids) A)
theorem known_R16LeftN : Known Try.prog 119 cR16LeftN := known_N2 (fun ids A h => det_r16_Left ids A h.1 h.2) fun ids A h => closed_en _
theorem det_r21_Ring (L : List Lse) (K : List Lck) (h : okLK L K) (hs : L.length ≤ 268435456) : Det Try.prog 27 [en L, en K] [] (.bool (ringB (arcsW K L))) [] := by
  refine det_finF mixed0 (knows_cons known_R21Arcs (knows_cons known_R16LeftN knows_nil)) ok_r21_Ring 1 (by simp) ?_
  have hA := arcsW_len K L
  simp [ic_r21_Ring, rs_r21_Ring, cR21Arcs, h]
  generalize arcsW K L = A at *
  rw [ringB_left]
  refine LoopC.scanR Arc.zero A (fun i (b : List Int) => ⟨[(5, .view (A.map Cel.c)), (6, bs 0 (b.map Cel.c)), (7, .int .i64 i)], [bob 1 (b.map Cel.c)]⟩) (fun i b r => eqL b (ringIds (A.take i))) [] [0] (by simp [atR, gOk, cvw] <;> decide) (by simp [eqL, ringIds]) (fun i a r b hi ha hd hG => ?_) fun b hG => ?_
  · unfold eqL at hG
    have htk := takeA hi ha
    have hb : b.length ≤ 2 * i := by
      rw [hG, ringIds_len]; simp; omega
    simp [hi, ha]
    refine ⟨by omega, by omega, b ++ [a.From, a.To], ⟨[1], by simp [atR, gOk, cvw] <;> decide⟩, ?_⟩
    show _ = _
    rw [htk, hG]; simp [ringIds]
  · unfold eqL at hG
    rw [List.take_length] at hG
    have hbl : b.length ≤ 536870912 := by rw [hG, ringIds_len]; omega
    have hAl : A.length ≤ 1073741823 := by omega
    rw [← hG]
    cases b with
    | nil => simp [cR16LeftN, hAl]
    | cons x b =>
      simp at hbl
      simp [cR16LeftN, hAl, hbl]
def cR21Ring : Ctr := C2 (fun (L : List Lse) (K : List Lck) => okLK L K ∧ L.length ≤ 268435456) fun L K => .bool (ringB (arcsW K L))
theorem known_R21Ring : Known Try.prog 27 cR21Ring := known_C2 (fun L K h => det_r21_Ring L K h.1 h.2) fun L K => flat_bool _
set_option maxHeartbeats 4000000 in
theorem det_r21_Chain (L : List Lse) (K : List Lck) (t : Int) (h : okLK L K) (hs : L.length ≤ 536870911) : Det Try.prog 33 [en L, en K, en t] [] (en (chainW (arcsW K L) t)) [] := by
  refine det_finF mixed0 (knows_cons known_R21Arcs (knows_cons known_R21Next (knows_cons known_In knows_nil))) ok_r21_Chain 2 (by simp) ?_
  have hA := arcsW_len K L
  have hl := h.1.1
  simp [ic_r21_Chain, rs_r21_Chain, cR21Arcs, h]
  generalize hAe : arcsW K L = A at *
  have hAl : A.length ≤ 9223372036854775807 := by omega
  refine LoopC.genR (fun b : List Int × Int => ⟨[(7, .view (A.map Cel.c)), (8, .sl 0 0 b.1.length)], [.rows 1 (b.1.map Cel.c)]⟩) (fun b => ChI A t b.1 b.2 ∧ nth b.1 (b.1.length - 1) 0 = b.2) (fun b => A.length + 2 - b.1.length) ([t], t) [0] (by simp [atR, gOk, cvw] <;> decide) ⟨ChI.begin A t, by simp⟩ ?_
  rintro ⟨out, c⟩ ⟨hI, hla⟩
  simp only at hI hla
  have hol := hI.len
  have hone := hI.one
  have hol2 : out.length ≤ 9223372036854775807 := by omega
  have hin : ((out.length : Int) - 1).toNat = out.length - 1 := by omega
  have hb := frI_b A c
  by_cases q1 : 0 ≤ frI A c
  · by_cases q2 : (atK Arc.zero A (frI A c)).To ∈ out
    · have hst := hI.stop (.inr q2)
      rw [hst]
      simp [cR21Next, nextV, hAl, q1, cIn, hol2, q2, hin, hla, vcLoose, heapsOf]
      omega
    · have hnx := hI.next q1 q2
      have hnl := hnx.len
      simp only [List.length_append, List.length_singleton] at hnl
      simp [cR21Next, nextV, hAl, q1, cIn, hol2, q2, hin, hla, vcLoose, heapsOf]
      refine ⟨by omega, by omega, by omega, by omega, out ++ [(atK Arc.zero A (frI A c)).To], ⟨[1], by simp [atR, gOk, cvw] <;> decide⟩, by simpa [nth] using hnx, by simp; omega⟩
  · have hst := hI.stop (.inl q1)
    rw [hst]
    simp [cR21Next, nextV, hAl, q1, hol2, hin, hla, vcLoose, heapsOf]
    omega
def cR21Chain : Ctr := V3 (fun (L : List Lse) (K : List Lck) (t : Int) => okLK L K ∧ L.length ≤ 536870911) fun L K t => en (chainW (arcsW K L) t)
theorem known_R21Chain : Known Try.prog 33 cR21Chain := known_V3 (fun L K t h => det_r21_Chain L K t h.1 h.2) fun L K t h => closed_en _
set_option maxHeartbeats 4000000 in
theorem det_r21_Ready (L : List Lse) (K : List Lck) (h : okLK L K) : Det Try.prog 35 [en L, en K] [] (en (readyW K L)) [] := by
  refine det_finF mixed0 (knows_cons known_R21Waits knows_nil) ok_r21_Ready 2 (by simp) ?_
  obtain ⟨hl, hL, hK⟩ := h
  have hKl : K.length ≤ 9223372036854775807 := by have := hl.2; omega
  simp [ic_r21_Ready, rs_r21_Ready]
  refine LoopC.scanR Lse.zero L (fun i (b : List Int) => ⟨[(0, .view (L.map Cel.c)), (1, .view (K.map Cel.c)), (5, bs 0 (b.map Cel.c)), (6, .int .i64 i)], [bob 1 (b.map Cel.c)]⟩) (fun i b r => eqL b (readyW K (L.take i))) [] [0] (by simp [atR, gOk, cvw] <;> decide) (by simp [eqL, readyW]) (fun i a r b hi ha hd hG => ?_) fun b hG => ?_
  · unfold eqL at hG
    have haL : a.Want.length ≤ 9223372036854775807 := by have := hL a (mem_drop hd); omega
    have htk := takeL hi ha
    have hb : b.length ≤ i := by
      rw [hG]; unfold readyW
      rw [List.length_map]
      have := List.length_filter_le (readyX K) (L.take i)
      simp at this ⊢; omega
    have hLl := hl.1
    have hgb := goalI_b K a
    have hrx : readyX K a = (decide (a.Got = a.Want.length) || (decide (0 ≤ goalI K a) && decide ((lkX K (goalI K a)).Holder = 0) && decide (0 < (lkX K (goalI K a)).Wait.length) && decide (nth (lkX K (goalI K a)).Wait 0 0 = a.Token))) := rfl
    have done : ∀ (v : Bool), readyX K a = v → (if v then b ++ [a.Token] else b) = readyW K (L.take (i + 1)) := fun v hv => by
      rw [htk, hG]
      cases v <;> simp [readyW, hv]
    by_cases q0 : a.Got = a.Want.length
    · have hd1 := done true (by rw [hrx]; simp [q0])
      simp [hi, ha, cR21Waits, hKl, haL, q0, vcLoose, heapsOf]
      refine ⟨by omega, by omega, b ++ [a.Token], ⟨[2], by simp [atR, gOk, cvw] <;> decide⟩, by simpa [eqL] using hd1⟩
    · by_cases q1 : 0 ≤ goalI K a
      · have q1' : goalI K a < K.length := by omega
        have hat : atK Lck.zero K (goalI K a) = nth K (goalI K a).toNat Lck.zero := by unfold atK; rw [if_neg (by omega)]
        unfold lkX at hrx
        rw [hat] at hrx
        have hXw : (nth K (goalI K a).toNat Lck.zero).Wait.length ≤ 9223372036854775807 := by rw [← hat]; exact okK1_at hK _
        generalize hX : nth K (goalI K a).toNat Lck.zero = X at hrx hXw
        by_cases q2 : X.Holder = 0
        · by_cases q3 : 0 < X.Wait.length
          · by_cases q4 : nth X.Wait 0 0 = a.Token
            · have hd1 := done true (by rw [hrx]; simp [q1, q2, q3, q4])
              simp [hi, ha, cR21Waits, hKl, haL, hX, q0, q1, q1', q2, q3, q4, vcLoose, heapsOf]
              refine ⟨by omega, by omega, b ++ [a.Token], ⟨[2], by simp [atR, gOk, cvw] <;> decide⟩, by simpa [eqL] using hd1⟩
            · have hd1 := done false (by rw [hrx]; simp [q0, q4])
              simp [hi, ha, cR21Waits, hKl, haL, hX, q0, q1, q1', q2, q3, q4, vcLoose, heapsOf]
              refine ⟨by omega, b, ⟨[0], by simp [atR, gOk, cvw] <;> decide⟩, by simpa [eqL] using hd1⟩
          · have hd1 := done false (by rw [hrx]; simp [q0, q3])
            have q3' : X.Wait = [] := List.length_eq_zero_iff.1 (by omega)
            simp [hi, ha, cR21Waits, hKl, haL, hX, q0, q1, q1', q2, q3', vcLoose, heapsOf]
            refine ⟨by omega, b, ⟨[0], by simp [atR, gOk, cvw] <;> decide⟩, by simpa [eqL] using hd1⟩
        · have hd1 := done false (by rw [hrx]; simp [q0, q2])
          simp [hi, ha, cR21Waits, hKl, haL, hX, q0, q1, q1', q2, vcLoose, heapsOf]
          refine ⟨by omega, b, ⟨[0], by simp [atR, gOk, cvw] <;> decide⟩, by simpa [eqL] using hd1⟩
      · have hd1 := done false (by rw [hrx]; simp [q0, q1])
        simp [hi, ha, cR21Waits, hKl, haL, q0, q1, vcLoose, heapsOf]
        refine ⟨by omega, b, ⟨[0], by simp [atR, gOk, cvw] <;> decide⟩, by simpa [eqL] using hd1⟩
  · unfold eqL at hG
    rw [List.take_length] at hG
    rw [← hG]; simp
def cR21Ready : Ctr := V2 (fun (L : List Lse) (K : List Lck) => okLK L K) fun L K => en (readyW K L)
theorem known_R21Ready : Known Try.prog 35 cR21Ready := known_V2 (fun L K h => det_r21_Ready L K h) fun L K h => closed_en _
end Go.Proofs.Ytnjpfoblmomnlaa.Sx
