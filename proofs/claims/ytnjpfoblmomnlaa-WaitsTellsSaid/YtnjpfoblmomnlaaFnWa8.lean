/- Package tallymanref21: what is right; the statement. No conditions: a kit of our own. -/
import Derived.Test.YtnjpfoblmomnlaaFnWa6
namespace Go.Proofs.Ytnjpfoblmomnlaa.Sx
open Go Go.RowKit
open Hp (mget mput mdel HpS)
set_option linter.unusedVariables false
set_option linter.unusedSimpArgs false
set_option maxHeartbeats 8000000

set_option maxHeartbeats 4000000 in
theorem det_r21_lease (x : Lse) (K : List Lck) (h1 : K.length ≤ 1073741824) (hK : okK1 K) (hx : x.Want.length ≤ 1073741824) : Det Try.prog 116 [en x, en K] [] (.bool (leaseB K x)) [] := by
  refine det_finF mixed0 (knows_cons known_R17Right (knows_cons known_R21Find (knows_cons known_R21Waits (knows_cons known_In knows_nil)))) ok_r21_lease 1 (by simp) ?_
  have hx1 : x.Want.length ≤ 9223372036854775807 := by omega
  have hK1 : K.length ≤ 9223372036854775807 := by omega
  have hgb := goalI_b K x
  cases hr : rises x.Want with
  | false => simp [ic_r21_lease, rs_r21_lease, cR17Right, leaseB, hx1, hr]
  | true =>
    by_cases h0 : x.Got < 0
    · have h0' : ¬ 0 ≤ x.Got := by omega
      simp [ic_r21_lease, rs_r21_lease, cR17Right, leaseB, hx1, hr, h0, h0']
    · by_cases h1 : (x.Want.length : Int) < x.Got
      · have h1' : ¬ x.Got ≤ x.Want.length := by omega
        simp [ic_r21_lease, rs_r21_lease, cR17Right, leaseB, hx1, hr, h0, h1, h1']
      · have h2 : 0 ≤ x.Got := by omega
        have h3 : x.Got ≤ x.Want.length := by omega
        have hlb : leaseB K x = ((x.Want.take x.Got.toNat).all (holdB K x.Token) && (decide (x.Got = x.Want.length) || (decide (0 ≤ goalI K x) && decide (x.Token ∈ (lkX K (goalI K x)).Wait)))) := by simp [leaseB, hr, h2, h3]
        rw [hlb]
        have hWl : (x.Want.take x.Got.toNat).length ≤ x.Want.length := by simp; omega
        have hWi : ((x.Want.take x.Got.toNat).length : Int) = x.Got := by simp; omega
        have hWn : ∀ i, i < (x.Want.take x.Got.toNat).length → nth (x.Want.take x.Got.toNat) i 0 = nth x.Want i 0 := fun i hi => by
          rw [nth_get hi, nth_get (by omega)]; simp
        simp [ic_r21_lease, rs_r21_lease, cR17Right, hx1, hr, h0, h1, h2, h3]
        generalize x.Want.take x.Got.toNat = W at *
        refine LoopC.scan (0 : Int) W (fun i => ⟨[(1, .view (K.map Cel.c)), (2, .ptr 0 0 0), (5, .int .i64 i)], [.rows 7 [Cel.c x]]⟩) (fun r => W.all (holdB K x.Token) = r.all (holdB K x.Token)) (by simp) (by simp) rfl (fun i a r hi ha hG => ?_) fun hG => ?_
        · have hi1 : (i : Int) < x.Got := by omega
          have hi2 : i < x.Want.length := by omega
          have ha2 : nth x.Want i 0 = a := by rw [← hWn i hi]; exact ha
          have hib := idI_b K a
          rw [hG]
          simp only [List.all_cons]
          by_cases q1 : 0 ≤ idI K a
          · have q1' : idI K a < K.length := by omega
            have hat : atK Lck.zero K (idI K a) = nth K (idI K a).toNat Lck.zero := by unfold atK; rw [if_neg (by omega)]
            by_cases q2 : (nth K (idI K a).toNat Lck.zero).Holder = x.Token
            · simp [hi1, hi2, ha2, cR21Find, hK1, holdB, lkX, hat, q1, q1', q2, vcLoose, heapsOf]
              omega
            · simp [hi1, hi2, ha2, cR21Find, hK1, holdB, lkX, hat, q1, q1', q2, vcLoose, heapsOf]
          · simp [hi1, hi2, ha2, cR21Find, hK1, holdB, q1, vcLoose, heapsOf]
        · rw [hG, hWi]
          simp only [List.all_nil, Bool.true_and]
          by_cases q0 : x.Got = x.Want.length
          · simp [q0, cR21Waits, hK1, hx1, vcLoose, heapsOf]
          · by_cases q1 : 0 ≤ goalI K x
            · have q1' : goalI K x < K.length := by omega
              have hat : atK Lck.zero K (goalI K x) = nth K (goalI K x).toNat Lck.zero := by unfold atK; rw [if_neg (by omega)]
              have hgw := okK1_at hK (goalI K x)
              unfold lkX at hgw
              rw [hat] at hgw
              simp [q0, q1, q1', cR21Waits, hK1, hx1, lkX, hat, cIn, hgw, vcLoose, heapsOf]
            · simp [q0, q1, cR21Waits, hK1, hx1, vcLoose, heapsOf]
def cR21Lease : Ctr := C2 (fun (x : Lse) (K : List Lck) => K.length ≤ 1073741824 ∧ okK1 K ∧ x.Want.length ≤ 1073741824) fun x K => .bool (leaseB K x)
theorem known_R21Lease : Known Try.prog 116 cR21Lease := known_C2 (fun x K h => det_r21_lease x K h.1 h.2.1 h.2.2) fun x K => flat_bool _

/-! ### locks -/
/-- The document's way: each that waits stands there once. -/
def waitR (L : List Lse) (k : Lck) (t : Int) : Bool := (decide (0 ≤ toI L t) && decide (k.Wait.count t = 1)) && (!decide ((lsX L t).Got = (lsX L t).Want.length) && decide (nth (lsX L t).Want (lsX L t).Got.toNat 0 = k.ID))
theorem waitsB_iff (L : List Lse) (k : Lck) : ∀ (r : List Int) (i : Nat), k.Wait.drop i = r → (waitsB L k i r = true ↔ (∀ t ∈ r, waitB L k t = true) ∧ ∀ j, i ≤ j → j < k.Wait.length → nth k.Wait j 0 ∉ k.Wait.take j)
  | [], i, h => by
    have hl : k.Wait.length ≤ i := by
      have := congrArg List.length h
      simp at this; omega
    simp [waitsB]
    intro j h1 h2; omega
  | t :: r, i, h => by
    have hlt : i < k.Wait.length := by
      have := congrArg List.length h
      simp at this; omega
    have hd := drop_nth (0 : Int) hlt
    rw [h] at hd
    have e1 : nth k.Wait i 0 = t := by simp at hd; exact hd.1.symm
    have e2 : k.Wait.drop (i + 1) = r := by simp at hd; exact hd.2.symm
    have ih := waitsB_iff L k r (i + 1) e2
    simp only [waitsB, Bool.and_eq_true, ih]
    constructor
    · rintro ⟨⟨h1, h2⟩, h3, h4⟩
      refine ⟨fun u hu => ?_, fun j hj hj2 => ?_⟩
      · rcases List.mem_cons.1 hu with e | e
        · rw [e]; exact h2
        · exact h3 u e
      · by_cases e : j = i
        · subst e; rw [e1]; simpa using h1
        · exact h4 j (by omega) hj2
    · rintro ⟨h1, h2⟩
      refine ⟨⟨?_, h1 t (by simp)⟩, fun u hu => h1 u (List.mem_cons_of_mem _ hu), fun j hj hj2 => h2 j (by omega) hj2⟩
      have := h2 i (Nat.le_refl _) hlt
      rw [e1] at this
      simpa using this
theorem nodup_take {l : List Int} : l.Nodup ↔ ∀ j, j < l.length → nth l j 0 ∉ l.take j := by
  constructor
  · intro h j hj hm
    rw [nth_get hj] at hm
    obtain ⟨i, hi, e⟩ := List.mem_take_iff_getElem.1 hm
    exact (List.pairwise_iff_getElem.1 (List.nodup_iff_pairwise_ne.1 h)) i j (by omega) hj (by omega) e
  · intro h
    rw [List.nodup_iff_pairwise_ne, List.pairwise_iff_getElem]
    intro i j hi hj hij e
    have := h j hj
    rw [nth_get hj] at this
    exact this (List.mem_take_iff_getElem.2 ⟨i, by omega, e⟩)
theorem waitsB_all (L : List Lse) (k : Lck) : waitsB L k 0 k.Wait = k.Wait.all (waitR L k) := by
  rw [Bool.eq_iff_iff, waitsB_iff L k k.Wait 0 (by simp), List.all_eq_true]
  have hn : (∀ j, 0 ≤ j → j < k.Wait.length → nth k.Wait j 0 ∉ k.Wait.take j) ↔ k.Wait.Nodup := by
    rw [nodup_take]; exact ⟨fun h j hj => h j (Nat.zero_le _) hj, fun h j _ hj => h j hj⟩
  rw [hn]
  constructor
  · rintro ⟨h1, h2⟩ t ht
    have h3 := h1 t ht
    have h4 : k.Wait.count t = 1 := by
      have h5 := List.nodup_iff_count.1 h2 t
      have h6 := List.count_pos_iff.2 ht
      omega
    simp only [waitB, Bool.and_eq_true] at h3
    simp only [waitR, Bool.and_eq_true, h4, decide_true, and_true]
    exact h3
  · intro h
    refine ⟨fun t ht => ?_, List.nodup_iff_count.2 fun t => ?_⟩
    · have h3 := h t ht
      simp only [waitR, Bool.and_eq_true] at h3
      simp only [waitB, Bool.and_eq_true]
      exact ⟨h3.1.1, h3.2⟩
    · by_cases ht : t ∈ k.Wait
      · have h3 := h t ht
        simp only [waitR, Bool.and_eq_true, decide_eq_true_eq] at h3
        omega
      · rw [List.count_eq_zero.2 ht]; omega
theorem lockB_R (L : List Lse) (k : Lck) : lockB L k = (heldB L k && k.Wait.all (waitR L k)) := by
  unfold lockB; rw [waitsB_all]
set_option maxHeartbeats 8000000 in
theorem det_r21_lock (k : Lck) (L : List Lse) (hl : L.length ≤ 1073741824) (hL : ∀ x ∈ L, gotB x) (hk : k.Wait.length ≤ 1073741824) : Det Try.prog 117 [en k, en L] [] (.bool (lockB L k)) [] := by
  refine det_finF mixed0 (knows_cons known_R21Of (knows_cons known_In (knows_cons known_R21Times knows_nil))) ok_r21_lock 1 (by simp) ?_
  have hk1 : k.Wait.length ≤ 9223372036854775807 := by omega
  have hl1 : L.length ≤ 9223372036854775807 := by omega
  have htb := toI_b L k.Holder
  obtain ⟨⟨hh1, hh2⟩, hh3⟩ := lsX_got hL k.Holder
  have hhb : heldB L k = (decide (k.Holder = 0) || (decide (0 ≤ toI L k.Holder) && decide (k.ID ∈ (lsX L k.Holder).Want.take (lsX L k.Holder).Got.toNat))) := rfl
  unfold lsX at hh1 hh2 hh3 hhb
  generalize hX : atK Lse.zero L (toI L k.Holder) = X at hh1 hh2 hh3 hhb
  have hX' : 0 ≤ toI L k.Holder → nth L (toI L k.Holder).toNat Lse.zero = X := fun h => by rw [← hX]; unfold atK; rw [if_neg (by omega)]
  have hW : List.take X.Got.toNat (List.map Cel.c X.Want) = (List.take X.Got.toNat X.Want).map Cel.c := by simp
  have hWl : (List.take X.Got.toNat X.Want).length ≤ 9223372036854775807 := by rw [List.length_take]; omega
  generalize List.take X.Got.toNat X.Want = W at hW hWl hhb
  have key : (heldB L k = false ∧ ¬ k.Holder = 0 ∧ (¬ 0 ≤ toI L k.Holder ∨ (0 ≤ toI L k.Holder ∧ k.ID ∉ W))) ∨ (heldB L k = true ∧ (k.Holder = 0 ∨ (¬ k.Holder = 0 ∧ 0 ≤ toI L k.Holder ∧ k.ID ∈ W))) := by
    rw [hhb]
    by_cases h0 : k.Holder = 0
    · exact .inr ⟨by simp [h0], .inl h0⟩
    · by_cases h1 : 0 ≤ toI L k.Holder
      · by_cases h2 : k.ID ∈ W
        · exact .inr ⟨by simp [h1, h2], .inr ⟨h0, h1, h2⟩⟩
        · exact .inl ⟨by simp [h0, h2], h0, .inr ⟨h1, h2⟩⟩
      · exact .inl ⟨by simp [h0, h1], h0, .inl h1⟩
  rw [lockB_R]
  rcases key with ⟨hb, h0, h1 | ⟨h1, h2⟩⟩ | ⟨hb, h0 | ⟨h0, h1, h2⟩⟩
  · simp [ic_r21_lock, rs_r21_lock, hb, h0, h1, cR21Of, hl1, vcLoose, heapsOf]
  · have h1' : toI L k.Holder < L.length := by omega
    simp [ic_r21_lock, rs_r21_lock, hb, h0, h1, h1', h2, cR21Of, hl1, hX' h1, cIn, hW, hWl, hh1, hh2, vcLoose, heapsOf]
  all_goals first | (simp [ic_r21_lock, rs_r21_lock, hb, h0]; done) | skip
  all_goals first
    | (have h1' : toI L k.Holder < L.length := by omega
       have h1'' : ¬ toI L k.Holder < 0 := by omega
       simp [ic_r21_lock, rs_r21_lock, hb, h0, h1, h1', h1'', h2, cR21Of, hl1, hX' h1, cIn, hW, hWl, hh1, hh2, vcLoose, heapsOf])
    | simp [ic_r21_lock, rs_r21_lock, hb, h0]
  all_goals refine LoopC.scan (0 : Int) k.Wait (fun i => ⟨[(1, .view (L.map Cel.c)), (2, .ptr 0 0 0), (6, .int .i64 i)], [.rows 3 [Cel.c k]]⟩) (fun r => k.Wait.all (waitR L k) = r.all (waitR L k)) (by simp) (by simp [*]) rfl (fun i a r hi ha hG => ?_) fun hG => ?_
  all_goals rw [hG]
  all_goals first | (simp; done) | skip
  all_goals
    obtain ⟨⟨gg1, gg2⟩, gg3⟩ := lsX_got hL a
    have htb2 := toI_b L a
    have hwb : waitR L k a = ((decide (0 ≤ toI L a) && decide (k.Wait.count a = 1)) && (!decide ((lsX L a).Got = (lsX L a).Want.length) && decide (nth (lsX L a).Want (lsX L a).Got.toNat 0 = k.ID))) := rfl
    unfold lsX at gg1 gg2 gg3 hwb
    generalize hZ : atK Lse.zero L (toI L a) = Z at gg1 gg2 gg3 hwb
    have hZ' : 0 ≤ toI L a → nth L (toI L a).toNat Lse.zero = Z := fun h => by rw [← hZ]; unfold atK; rw [if_neg (by omega)]
    simp only [List.all_cons]
    rw [hwb]
    generalize hC : List.count a k.Wait = C
    by_cases q1 : 0 ≤ toI L a
    · have q1' : toI L a < L.length := by omega
      have q1'' : ¬ toI L a < 0 := by omega
      by_cases q2 : C = 1
      · by_cases q3 : Z.Got = Z.Want.length
        · have q3' : (Z.Want.length : Int) ≤ Z.Got := by omega
          simp [hi, ha, cR21Of, hl1, cR21Times, hk1, hC, hZ' q1, q1, q1', q1'', q2, q3, vcLoose, heapsOf]
        · have q4 : Z.Got < Z.Want.length := by omega
          have q4' : ¬ (Z.Want.length : Int) ≤ Z.Got := by omega
          by_cases q5 : nth Z.Want Z.Got.toNat 0 = k.ID
          · simp [hi, ha, cR21Of, hl1, cR21Times, hk1, hC, hZ' q1, q1, q1', q1'', q2, q3, q4, q4', q5, gg1, vcLoose, heapsOf]
            try omega
          · simp [hi, ha, cR21Of, hl1, cR21Times, hk1, hC, hZ' q1, q1, q1', q1'', q2, q3, q4, q4', q5, gg1, vcLoose, heapsOf]
      · have q2' : ¬ (C : Int) = 1 := by omega
        simp [hi, ha, cR21Of, hl1, cR21Times, hk1, hC, q1, q1', q1'', q2, q2', vcLoose, heapsOf]
    · simp [hi, ha, cR21Of, hl1, q1, vcLoose, heapsOf]
def cR21Lock : Ctr := C2 (fun (k : Lck) (L : List Lse) => L.length ≤ 1073741824 ∧ (∀ x ∈ L, gotB x) ∧ k.Wait.length ≤ 1073741824) fun k L => .bool (lockB L k)
theorem known_R21Lock : Known Try.prog 117 cR21Lock := known_C2 (fun k L h => det_r21_lock k L h.1 h.2.1 h.2.2) fun k L => flat_bool _
end Go.Proofs.Ytnjpfoblmomnlaa.Sx
/- Who waits for whom: the statement's function returns true. No conditions: a kit of our own. -/
namespace Go.Proofs.Ytnjpfoblmomnlaa.Sx
open Go Go.RowKit
open Hp (mget mput mdel HpS)
set_option linter.unusedVariables false
set_option linter.unusedSimpArgs false

def risesK : List Lck → Nat → List Lck → Bool
  | K, _, [] => true
  | K, i, k :: r => decide ((nth K (i - 1) Lck.zero).ID < k.ID) && risesK K (i + 1) r
theorem locksB_split (L : List Lse) (K : List Lck) : ∀ (r : List Lck) (i : Nat), 0 < i → locksB L K i r = (risesK K i r && r.all (lockB L))
  | [], i, _ => by simp [locksB, risesK]
  | k :: r, i, hi => by
    have ih := locksB_split L K r (i + 1) (by omega)
    simp only [locksB, risesK, List.all_cons, ih]
    have h0 : decide (i = 0) = false := by simp; omega
    rw [h0, Bool.false_or]
    generalize decide ((nth K (i - 1) Lck.zero).ID < k.ID) = a
    generalize lockB L k = b
    generalize risesK K (i + 1) r = c
    generalize r.all (lockB L) = d
    cases a <;> cases b <;> cases c <;> cases d <;> rfl
theorem locksB_R (L : List Lse) (K : List Lck) : locksB L K 0 K = (risesK K 1 (K.drop 1) && K.all (lockB L)) := by
  cases K with
  | nil => simp [locksB, risesK]
  | cons k K =>
    simp only [locksB, decide_true, Bool.true_or, Bool.true_and, List.drop_succ_cons, List.drop_zero, List.all_cons]
    rw [locksB_split L (k :: K) K (0 + 1) (by omega)]
    generalize lockB L k = b
    generalize risesK (k :: K) (0 + 1) K = c
    generalize K.all (lockB L) = d
    cases b <;> cases c <;> cases d <;> rfl
theorem rightB_R (L : List Lse) (K : List Lck) : rightB L K = (risesK K 1 (K.drop 1) && (leasesB K 0 L && K.all (lockB L))) := by
  unfold rightB
  rw [locksB_R]
  generalize leasesB K 0 L = a
  generalize risesK K 1 (K.drop 1) = c
  generalize K.all (lockB L) = d
  cases a <;> cases c <;> cases d <;> rfl
set_option maxHeartbeats 4000000 in
theorem det_r21_Right (L : List Lse) (K : List Lck) (h : okLK L K) : Det Try.prog 25 [en L, en K] [] (.bool (rightB L K)) [] := by
  refine det_finF mixed0 (knows_cons known_R21Lease (knows_cons known_R21Lock knows_nil)) ok_r21_Right 1 (by simp) ?_
  obtain ⟨hl, hL, hK⟩ := h
  have hl1 := hl.1
  have hl2 := hl.2
  rw [rightB_R]
  generalize hR : risesK K 1 (K.drop 1) = R
  simp [ic_r21_Right, rs_r21_Right]
  refine LoopC.gen (fun i : Nat => ⟨[(0, .view (L.map Cel.c)), (1, .view (K.map Cel.c)), (5, .int .i64 (i + 1 : Nat))], []⟩) (fun i => i ≤ K.length ∧ R = risesK K (i + 1) (K.drop (i + 1))) (fun i => K.length - i) 0 (by simp) (by simp) ⟨Nat.zero_le _, hR.symm⟩ fun i ⟨hi, hG⟩ => ?_
  by_cases hlt : i + 1 < K.length
  · have hd := drop_nth Lck.zero hlt
    rw [hd] at hG
    simp only [risesK, Nat.add_sub_cancel] at hG
    have hlt' : (i : Int) + 1 < K.length := by omega
    have hlt0 : i < K.length := by omega
    have e1 : ((i : Int) + 1).toNat = i + 1 := by omega
    have e2 : (0 : Int) ≤ (i : Int) + 1 := by omega
    by_cases q1 : (nth K i Lck.zero).ID < (nth K (i + 1) Lck.zero).ID
    · have q1' : ¬ (nth K (i + 1) Lck.zero).ID ≤ (nth K i Lck.zero).ID := by omega
      simp only [q1, decide_true, Bool.true_and] at hG
      simp [hlt, hlt', hlt0, e1, e2, q1, q1', vcLoose, heapsOf]
      exact ⟨by omega, by omega, i + 1, by simp, ⟨by omega, hG⟩, by omega⟩
    · have q1' : (nth K (i + 1) Lck.zero).ID ≤ (nth K i Lck.zero).ID := by omega
      simp only [q1, decide_false, Bool.false_and] at hG
      subst hG
      simp [hlt, hlt', hlt0, e1, e2, q1, q1', vcLoose, heapsOf]
      omega
  · have hlt' : ¬ (i : Int) + 1 < K.length := by omega
    rw [List.drop_eq_nil_of_le (by omega)] at hG
    simp only [risesK] at hG
    subst hG
    simp only [Bool.true_and]
    simp [hlt, hlt']
    generalize hB : K.all (lockB L) = B
    refine LoopC.scanB Lse.zero L (fun i (b : Int) => ⟨[(0, .view (L.map Cel.c)), (1, .view (K.map Cel.c)), (6, .int .i64 b), (7, .int .i64 i)], []⟩) (fun i b r => leasesB K 0 L = leasesB K b r) 0 (by simp) (by simp) rfl (fun i a r b hi ha hd hG => ?_) fun b hG => ?_
    · have haL : a.Want.length ≤ 1073741824 := hL a (mem_drop hd)
      simp only [leasesB] at hG
      by_cases q1 : b < a.Token
      · have q1' : ¬ a.Token ≤ b := by omega
        cases q2 : leaseB K a with
        | true =>
          simp only [q1, q2, decide_true, Bool.true_and] at hG
          simp [hi, ha, cR21Lease, hl2, hK, haL, q1, q1', q2, vcLoose, heapsOf]
          exact ⟨by omega, hG⟩
        | false =>
          simp only [q1, q2, decide_true, Bool.true_and, Bool.false_and] at hG
          simp [hi, ha, cR21Lease, hl2, hK, haL, q1, q1', q2, vcLoose, heapsOf, hG]
      · have q1' : a.Token ≤ b := by omega
        simp only [q1, decide_false, Bool.false_and] at hG
        simp [hi, ha, cR21Lease, hl2, hK, haL, q1, q1', vcLoose, heapsOf, hG]
    · have hall : leasesB K 0 L = true := hG
      have hg : ∀ x ∈ L, gotB x := fun x hx => leaseB_got (leasesB_all hall x hx) (hL x hx)
      rw [hall]
      simp
      refine LoopC.scan Lck.zero K (fun i => ⟨[(0, .view (L.map Cel.c)), (1, .view (K.map Cel.c)), (8, .int .i64 i)], []⟩) (fun r => B = r.all (lockB L)) (by simp) (by simp) hB.symm (fun i a r hi ha hG => ?_) fun hG => ?_
      · have haK : a.Wait.length ≤ 1073741824 := by
          rw [← ha, nth_get hi]; exact hK _ (List.getElem_mem _)
        simp only [List.all_cons] at hG
        cases q2 : lockB L a with
        | true =>
          simp only [q2, Bool.true_and] at hG
          simp [hi, ha, cR21Lock, hl1, haK, q2, vcLoose, heapsOf]
          exact ⟨hg, by omega, hG⟩
        | false =>
          simp only [q2, Bool.false_and] at hG
          simp [hi, ha, cR21Lock, hl1, haK, q2, vcLoose, heapsOf, hG]
          exact hg
      · rw [hG]
        simp
def cR21Right : Ctr := C2 (fun (L : List Lse) (K : List Lck) => okLK L K) fun L K => .bool (rightB L K)
theorem known_R21Right : Known Try.prog 25 cR21Right := known_C2 (fun L K h => det_r21_Right L K h) fun L K => flat_bool _

/-! ### the statement -/
theorem al_right : rightB [⟨5, 0, 0, 0, 0, 1, [1, 2]⟩, ⟨6, 0, 0, 0, 0, 1, [2]⟩] [⟨1, 5, []⟩, ⟨2, 6, [5]⟩] = true := by decide
theorem al_arcs : arcsW [⟨1, 5, []⟩, ⟨2, 6, [5]⟩] [⟨5, 0, 0, 0, 0, 1, [1, 2]⟩, ⟨6, 0, 0, 0, 0, 1, [2]⟩] = [⟨5, 6⟩] := by decide
theorem al_ring : ringB [⟨5, 6⟩] = false := by decide
theorem al_ready : readyW [⟨1, 5, []⟩, ⟨2, 6, [5]⟩] [⟨5, 0, 0, 0, 0, 1, [1, 2]⟩, ⟨6, 0, 0, 0, 0, 1, [2]⟩] = [6] := by decide
theorem al_chain : chainW [⟨5, 6⟩] 5 = [5, 6] := by decide
theorem al_ok : okLK [⟨5, 0, 0, 0, 0, 1, [1, 2]⟩, ⟨6, 0, 0, 0, 0, 1, [2]⟩] [⟨1, 5, []⟩, ⟨2, 6, [5]⟩] := by refine ⟨by decide, fun x hx => ?_, fun x hx => ?_⟩ <;> simp at hx <;> rcases hx with rfl | rfl <;> decide
theorem det_Alive21 : Det Try.prog 23 [] [] (.bool true) [] := by
  refine det_finF mixed0 (knows_cons known_wArcs (knows_cons known_wRight (knows_cons known_wRing (knows_cons known_wReady (knows_cons known_wChain (knows_cons known_Ints knows_nil)))))) ok_l21_alive 1 (by simp) ?_
  simp [ic_l21_alive, rs_l21_alive, cwArcs, cwRight, cwRing, cwReady, cwChain, cInts, al_right, al_arcs, al_ring, al_ready, al_chain, al_ok]
def cAlive21 : Ctr := C0 (.bool true)
theorem known_Alive21 : Known Try.prog 23 cAlive21 := known_C0 det_Alive21 (.bool _)
theorem fewW_ok {L : List Lse} {K : List Lck} (h : fewW L K = true) : okLK L K ∧ L.length ≤ 30 := by
  simp only [fewW, Bool.and_eq_true, decide_eq_true_eq, List.all_eq_true] at h
  obtain ⟨⟨h1, h2⟩, h3, h4⟩ := h
  exact ⟨⟨⟨by omega, by omega⟩, fun x hx => by have := h3 x hx; omega, fun x hx => by have := h4 x hx; omega⟩, h1⟩
theorem readyW_len (K : List Lck) (L : List Lse) : (readyW K L).length ≤ L.length := by
  unfold readyW
  rw [List.length_map]
  exact List.length_filter_le _ _
theorem chainW_len (A : List Arc) (t : Int) : (chainW A t).length ≤ A.length + 2 := by
  have key : ∀ (k : Nat) (out : List Int) (c : Int), (chainF A k out c).length ≤ out.length + k := fun k => by
    induction k with
    | zero => intro out c; simp [chainF]
    | succ k ih =>
      intro out c
      simp only [chainF]
      split
      · have := ih (out ++ [(atK Arc.zero A (frI A c)).To]) (atK Arc.zero A (frI A c)).To
        simp at this ⊢; omega
      · omega
  have := key (A.length + 1) [t] t
  simp at this
  unfold chainW
  omega
theorem det_WaitsTells (L : List Lse) (wL : Rd.wf L) (K : List Lck) (wK : Rd.wf K) (t : Int) (wt : Rd.wf t) : Det Try.prog 4 [en L, en K, en t] [] (.bool true) [] := by
  refine det_finF mixed0 (knows_cons known_R21Few (knows_cons known_Alive21 (knows_cons known_wRight (knows_cons known_R21Right (knows_cons known_wRing (knows_cons known_R21Ring (knows_cons known_wArcs (knows_cons known_R21Arcs (knows_cons known_R21Arrows (knows_cons known_wChain (knows_cons known_R21Chain (knows_cons known_Ints (knows_cons known_wReady (knows_cons known_R21Ready knows_nil)))))))))))))) ok_l21_WaitsTells 1 (by simp) ?_
  cases hf : fewW L K with
  | false => simp [ic_l21_WaitsTells, rs_l21_WaitsTells, cR21Few, cAlive21, hf]
  | true =>
    obtain ⟨ok, hl⟩ := fewW_ok hf
    have h1 : L.length ≤ 268435456 := by omega
    have h2 : L.length ≤ 536870911 := by omega
    have h3 := arcsW_len K L
    have h4 : (arcsW K L).length ≤ 9223372036854775807 := by omega
    have h5 := chainW_len (arcsW K L) t
    have h6 : (chainW (arcsW K L) t).length ≤ 9223372036854775807 := by omega
    have h7 := readyW_len K L
    have h8 : (readyW K L).length ≤ 9223372036854775807 := by omega
    simp [ic_l21_WaitsTells, rs_l21_WaitsTells, cR21Few, cAlive21, hf, cwRight, cR21Right, cwRing, cR21Ring, cwArcs, cR21Arcs, cR21Arrows, cwChain, cR21Chain, cInts, cwReady, cR21Ready, ok, h1, h2, h4, h6, h8]
end Go.Proofs.Ytnjpfoblmomnlaa.Sx
