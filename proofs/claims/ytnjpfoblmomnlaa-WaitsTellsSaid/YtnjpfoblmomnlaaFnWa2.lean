/- Package waits. No conditions: a kit of our own. -/
import Derived.Test.YtnjpfoblmomnlaaFnGr6
import Derived.Test.YtnjpfoblmomnlaaFnC2
import Derived.Test.YtnjpfoblmomnlaaTy20
import Derived.Test.YtnjpfoblmomnlaaIrWa
namespace Go.Proofs.Ytnjpfoblmomnlaa.Sx
open Go Go.RowKit
open Hp (mget mput mdel HpS)
set_option linter.unusedVariables false
set_option linter.unusedSimpArgs false
set_option maxHeartbeats 8000000

/-! ### finding -/
def idI (K : List Lck) (n : Int) : Int := fidx (fun k : Lck => decide (k.ID = n)) K 0
def toI (L : List Lse) (n : Int) : Int := fidx (fun x : Lse => decide (x.Token = n)) L 0
def frI (A : List Arc) (n : Int) : Int := fidx (fun a : Arc => decide (a.From = n)) A 0
theorem idI_b (K : List Lck) (n : Int) : idI K n = -1 ∨ (0 ≤ idI K n ∧ idI K n < K.length) := by
  have := fidx_in (fun k : Lck => decide (k.ID = n)) K 0 (by omega)
  unfold idI; omega
theorem toI_b (L : List Lse) (n : Int) : toI L n = -1 ∨ (0 ≤ toI L n ∧ toI L n < L.length) := by
  have := fidx_in (fun x : Lse => decide (x.Token = n)) L 0 (by omega)
  unfold toI; omega
theorem frI_b (A : List Arc) (n : Int) : frI A n = -1 ∨ (0 ≤ frI A n ∧ frI A n < A.length) := by
  have := fidx_in (fun a : Arc => decide (a.From = n)) A 0 (by omega)
  unfold frI; omega
abbrev CLk : Type := Clo1 254 Int
abbrev CLs : Type := Clo1 256 Int
abbrev CAr : Type := Clo1 123 Int
theorem det_lock_1 (x : Lck) (n : Bx Int) : Det Try.prog 254 [en x, en n] [] (.bool (decide (x.ID = n.v))) [] := by
  refine det_finF mixed0 knows_nil ok_waits_yard_lock_1 1 (by simp) ?_
  simp [ic_waits_yard_lock_1, rs_waits_yard_lock_1]
def cLock_1 : Ctr := C2 (fun (x : Lck) (n : Bx Int) => True) fun x n => .bool (decide (x.ID = n.v))
theorem known_lock_1 : Known Try.prog 254 cLock_1 := known_C2 (fun x n _ => det_lock_1 x n) fun x n => flat_bool _
theorem det_lease_1 (x : Lse) (n : Bx Int) : Det Try.prog 256 [en x, en n] [] (.bool (decide (x.Token = n.v))) [] := by
  refine det_finF mixed0 knows_nil ok_waits_yard_lease_1 1 (by simp) ?_
  simp [ic_waits_yard_lease_1, rs_waits_yard_lease_1]
def cLease_1 : Ctr := C2 (fun (x : Lse) (n : Bx Int) => True) fun x n => .bool (decide (x.Token = n.v))
theorem known_lease_1 : Known Try.prog 256 cLease_1 := known_C2 (fun x n _ => det_lease_1 x n) fun x n => flat_bool _
theorem det_Chain_1 (x : Arc) (n : Bx Int) : Det Try.prog 123 [en x, en n] [] (.bool (decide (x.From = n.v))) [] := by
  refine det_finF mixed0 knows_nil ok_waits_Chain_1 1 (by simp) ?_
  simp [ic_waits_Chain_1, rs_waits_Chain_1]
def cChain_1 : Ctr := C2 (fun (x : Arc) (n : Bx Int) => True) fun x n => .bool (decide (x.From = n.v))
theorem known_Chain_1 : Known Try.prog 123 cChain_1 := known_C2 (fun x n _ => det_Chain_1 x n) fun x n => flat_bool _
theorem det_IxLck (l : List Lck) (q : CLk) (hl : l.length ≤ 9223372036854775807) : Det Try.prog 253 [en l, en q] [] (.int .i64 (idI l q.v)) [] := by
  refine det_finF mixed0 (knows_cons known_lock_1 knows_nil) ok_slices_IndexFunc_api_Lock_api_Lock 1 (by simp) ?_
  simp [ic_slices_IndexFunc_api_Lock_api_Lock, rs_slices_IndexFunc_api_Lock_api_Lock]
  unfold idI
  refine LoopC.scanB Lck.zero l (fun i (_ : Unit) => ⟨[(0, .view (l.map Cel.c)), (1, en q), (7, .int .i64 l.length), (8, .int .i64 i)], []⟩) (fun i _ r => fidx (fun x : Lck => decide (x.ID = q.v)) l 0 = fidx (fun x : Lck => decide (x.ID = q.v)) r i) () (by simp; intros; exact low_vp1 _) (by simp) rfl (fun i a r b hi ha hd hG => ?_) fun b hG => ?_
  · rw [hG]
    simp [hi, ha, cLock_1, fidx, vcLoose]
    by_cases he : a.ID = q.v
    · simp [he]
    · simp [he]; omega
  · rw [hG]
    simp [fidx]
def cIxLck : Ctr := C2 (fun (l : List Lck) (q : CLk) => l.length ≤ 9223372036854775807) fun l q => .int .i64 (idI l q.v)
theorem known_IxLck : Known Try.prog 253 cIxLck := known_C2 (fun l q h => det_IxLck l q h) fun l q => flat_int _ _
theorem det_IxLse (l : List Lse) (q : CLs) (hl : l.length ≤ 9223372036854775807) : Det Try.prog 255 [en l, en q] [] (.int .i64 (toI l q.v)) [] := by
  refine det_finF mixed0 (knows_cons known_lease_1 knows_nil) ok_slices_IndexFunc_api_Lease_api_Lease 1 (by simp) ?_
  simp [ic_slices_IndexFunc_api_Lease_api_Lease, rs_slices_IndexFunc_api_Lease_api_Lease]
  unfold toI
  refine LoopC.scanB Lse.zero l (fun i (_ : Unit) => ⟨[(0, .view (l.map Cel.c)), (1, en q), (7, .int .i64 l.length), (8, .int .i64 i)], []⟩) (fun i _ r => fidx (fun x : Lse => decide (x.Token = q.v)) l 0 = fidx (fun x : Lse => decide (x.Token = q.v)) r i) () (by simp; intros; exact low_vp1 _) (by simp) rfl (fun i a r b hi ha hd hG => ?_) fun b hG => ?_
  · rw [hG]
    simp [hi, ha, cLease_1, fidx, vcLoose]
    by_cases he : a.Token = q.v
    · simp [he]
    · simp [he]; omega
  · rw [hG]
    simp [fidx]
def cIxLse : Ctr := C2 (fun (l : List Lse) (q : CLs) => l.length ≤ 9223372036854775807) fun l q => .int .i64 (toI l q.v)
theorem known_IxLse : Known Try.prog 255 cIxLse := known_C2 (fun l q h => det_IxLse l q h) fun l q => flat_int _ _
theorem det_IxArc (l : List Arc) (q : CAr) (hl : l.length ≤ 9223372036854775807) : Det Try.prog 122 [en l, en q] [] (.int .i64 (frI l q.v)) [] := by
  refine det_finF mixed0 (knows_cons known_Chain_1 knows_nil) ok_slices_IndexFunc_api_Arc_api_Arc 1 (by simp) ?_
  simp [ic_slices_IndexFunc_api_Arc_api_Arc, rs_slices_IndexFunc_api_Arc_api_Arc]
  unfold frI
  refine LoopC.scanB Arc.zero l (fun i (_ : Unit) => ⟨[(0, .view (l.map Cel.c)), (1, en q), (7, .int .i64 l.length), (8, .int .i64 i)], []⟩) (fun i _ r => fidx (fun x : Arc => decide (x.From = q.v)) l 0 = fidx (fun x : Arc => decide (x.From = q.v)) r i) () (by simp; intros; exact low_vp1 _) (by simp) rfl (fun i a r b hi ha hd hG => ?_) fun b hG => ?_
  · rw [hG]
    simp [hi, ha, cChain_1, fidx, vcLoose]
    by_cases he : a.From = q.v
    · simp [he]
    · simp [he]; omega
  · rw [hG]
    simp [fidx]
def cIxArc : Ctr := C2 (fun (l : List Arc) (q : CAr) => l.length ≤ 9223372036854775807) fun l q => .int .i64 (frI l q.v)
theorem known_IxArc : Known Try.prog 122 cIxArc := known_C2 (fun l q h => det_IxArc l q h) fun l q => flat_int _ _
/-- What stands at a place, and whether there is one. -/
def gvV {α : Type} [Cel α] (z : α) (l : List α) (i : Int) : AV := .tup [en (atK z l i), .bool (decide (0 ≤ i))]
theorem closed_gvV {α : Type} [Cel α] (z : α) (l : List α) (i : Int) : Closed (gvV z l i) := closed_tupl fun a ha => by
  rcases List.mem_cons.1 ha with rfl | ha
  · exact closed_en _
  · rcases List.mem_cons.1 ha with rfl | ha
    · exact .bool _
    · cases ha
def okY (y : Yrd) : Prop := y.Ls.length ≤ 1073741824 ∧ y.Ks.length ≤ 1073741824
theorem det_y_lock (y : Yrd) (n : Int) (hy : okY y) : Det Try.prog 201 [en y, en n] [] (gvV Lck.zero y.Ks (idI y.Ks n)) [] := by
  refine det_finF mixed0 (knows_cons known_IxLck knows_nil) ok_waits_yard_lock 3 (by simp) ?_
  have hl : y.Ks.length ≤ 9223372036854775807 := by have := hy.2; omega
  have hb := idI_b y.Ks n
  unfold gvV
  simp [ic_waits_yard_lock, rs_waits_yard_lock, cIxLck, hl]
  generalize idI y.Ks n = k at *
  by_cases h0 : k < 0
  · have h1 : ¬ 0 ≤ k := by omega
    simp [atK, h0, h1, Lck.zero]
  · have h1 : 0 ≤ k := by omega
    simp [atK, h0, h1]
    omega
def cy_lock : Ctr := V2 (fun (y : Yrd) (n : Int) => okY y) fun y n => gvV Lck.zero y.Ks (idI y.Ks n)
theorem known_y_lock : Known Try.prog 201 cy_lock := known_V2 (fun y n h => det_y_lock y n h) fun y n _ => closed_gvV _ _ _
theorem det_y_lease (y : Yrd) (n : Int) (hy : okY y) : Det Try.prog 202 [en y, en n] [] (gvV Lse.zero y.Ls (toI y.Ls n)) [] := by
  refine det_finF mixed0 (knows_cons known_IxLse knows_nil) ok_waits_yard_lease 3 (by simp) ?_
  have hl : y.Ls.length ≤ 9223372036854775807 := by have := hy.1; omega
  have hb := toI_b y.Ls n
  unfold gvV
  simp [ic_waits_yard_lease, rs_waits_yard_lease, cIxLse, hl]
  generalize toI y.Ls n = k at *
  by_cases h0 : k < 0
  · have h1 : ¬ 0 ≤ k := by omega
    simp [atK, h0, h1, Lse.zero]
  · have h1 : 0 ≤ k := by omega
    simp [atK, h0, h1]
    omega
def cy_lease : Ctr := V2 (fun (y : Yrd) (n : Int) => okY y) fun y n => gvV Lse.zero y.Ls (toI y.Ls n)
theorem known_y_lease : Known Try.prog 202 cy_lease := known_V2 (fun y n h => det_y_lease y n h) fun y n _ => closed_gvV _ _ _
/-- The place of the lock for which a lease waits; -1: none. -/
def goalI (K : List Lck) (x : Lse) : Int := if x.Got < 0 ∨ (x.Want.length : Int) ≤ x.Got then -1 else idI K (nth x.Want x.Got.toNat 0)
theorem goalI_b (K : List Lck) (x : Lse) : goalI K x = -1 ∨ (0 ≤ goalI K x ∧ goalI K x < K.length) := by
  unfold goalI
  split
  · exact .inl rfl
  · exact idI_b _ _
theorem det_y_goal (y : Yrd) (x : Lse) (hy : okY y) (hx : x.Want.length ≤ 9223372036854775807) : Det Try.prog 120 [en y, en x] [] (gvV Lck.zero y.Ks (goalI y.Ks x)) [] := by
  refine det_finF mixed0 (knows_cons known_y_lock knows_nil) ok_waits_yard_goal 3 (by simp) ?_
  unfold gvV goalI
  by_cases h0 : x.Got < 0
  · simp [ic_waits_yard_goal, rs_waits_yard_goal, h0, atK, Lck.zero]
  · by_cases h1 : (x.Want.length : Int) ≤ x.Got
    · simp [ic_waits_yard_goal, rs_waits_yard_goal, h0, h1, atK, Lck.zero]
    · have h2 : 0 ≤ x.Got := by omega
      have h3 : x.Got < x.Want.length := by omega
      simp [ic_waits_yard_goal, rs_waits_yard_goal, h0, h1, h2, h3, cy_lock, hy, gvV, vcLoose, heapsOf]
def cy_goal : Ctr := V2 (fun (y : Yrd) (x : Lse) => okY y ∧ x.Want.length ≤ 9223372036854775807) fun y x => gvV Lck.zero y.Ks (goalI y.Ks x)
theorem known_y_goal : Known Try.prog 120 cy_goal := known_V2 (fun y x h => det_y_goal y x h.1 h.2) fun y x _ => closed_gvV _ _ _
end Go.Proofs.Ytnjpfoblmomnlaa.Sx
/- Package waits: what is right, who waits for whom. No conditions: a kit of our own. -/
namespace Go.Proofs.Ytnjpfoblmomnlaa.Sx
open Go Go.RowKit
open Hp (mget mput mdel HpS)
set_option linter.unusedVariables false
set_option linter.unusedSimpArgs false

abbrev lkX (K : List Lck) (i : Int) : Lck := atK Lck.zero K i
abbrev lsX (L : List Lse) (n : Int) : Lse := atK Lse.zero L (toI L n)
theorem atK_mem {α : Type} {z : α} {l : List α} {i : Int} (h0 : 0 ≤ i) (h1 : i < l.length) : atK z l i ∈ l := by
  unfold atK
  rw [if_neg (by omega), nth_get (by omega)]
  exact List.getElem_mem _
def holdB (K : List Lck) (tok n : Int) : Bool := decide (0 ≤ idI K n) && decide ((lkX K (idI K n)).Holder = tok)
def leaseB (K : List Lck) (x : Lse) : Bool := (rises x.Want && decide (0 ≤ x.Got) && decide (x.Got ≤ x.Want.length)) && ((x.Want.take x.Got.toNat).all (holdB K x.Token) && (decide (x.Got = x.Want.length) || (decide (0 ≤ goalI K x) && decide (x.Token ∈ (lkX K (goalI K x)).Wait))))
def okK1 (K : List Lck) : Prop := ∀ k ∈ K, k.Wait.length ≤ 1073741824
theorem okK1_at {K : List Lck} (h : okK1 K) (i : Int) : (lkX K i).Wait.length ≤ 9223372036854775807 := by
  unfold lkX atK
  split
  · simp [Lck.zero]
  · rw [nth]
    cases hg : K[i.toNat]? with
    | none => simp [hg, Lck.zero]
    | some k =>
      have := h k (List.mem_of_getElem? hg)
      simp [hg]
      omega
theorem det_leaseRight (y : Yrd) (x : Lse) (hy : okY y) (hK : okK1 y.Ks) (hx : x.Want.length ≤ 1073741824) : Det Try.prog 114 [en y, en x] [] (.bool (leaseB y.Ks x)) [] := by
  refine det_finF mixed0 (knows_cons known_IdRight (knows_cons known_y_lock (knows_cons known_y_goal (knows_cons known_Contains knows_nil)))) ok_waits_yard_leaseRight 1 (by simp) ?_
  have hx1 : x.Want.length ≤ 9223372036854775807 := by omega
  have hgw := okK1_at hK (goalI y.Ks x)
  cases hr : rises x.Want with
  | false => simp [ic_waits_yard_leaseRight, rs_waits_yard_leaseRight, cIdRight, leaseB, hx1, hr]
  | true =>
    by_cases h0 : x.Got < 0
    · have h0' : ¬ 0 ≤ x.Got := by omega
      simp [ic_waits_yard_leaseRight, rs_waits_yard_leaseRight, cIdRight, leaseB, hx1, hr, h0, h0']
    · by_cases h1 : (x.Want.length : Int) < x.Got
      · have h1' : ¬ x.Got ≤ x.Want.length := by omega
        simp [ic_waits_yard_leaseRight, rs_waits_yard_leaseRight, cIdRight, leaseB, hx1, hr, h0, h1, h1']
      · have h2 : 0 ≤ x.Got := by omega
        have h3 : x.Got ≤ x.Want.length := by omega
        have hlb : leaseB y.Ks x = ((x.Want.take x.Got.toNat).all (holdB y.Ks x.Token) && (decide (x.Got = x.Want.length) || (decide (0 ≤ goalI y.Ks x) && decide (x.Token ∈ (lkX y.Ks (goalI y.Ks x)).Wait)))) := by simp [leaseB, hr, h2, h3]
        rw [hlb]
        have hW : List.take x.Got.toNat (List.map Cel.c x.Want) = (x.Want.take x.Got.toNat).map Cel.c := by simp
        have hWl : (x.Want.take x.Got.toNat).length ≤ x.Want.length := by simp; omega
        have hWi : ((x.Want.take x.Got.toNat).length : Int) = x.Got := by simp; omega
        have hWm : (min x.Got.toNat x.Want.length : Nat) = (x.Want.take x.Got.toNat).length := by simp
        simp only [ic_waits_yard_leaseRight, rs_waits_yard_leaseRight]
        generalize x.Want.take x.Got.toNat = W at *
        simp [cIdRight, hx1, hr, h0, h1, h2, h3, hW, hWm]
        refine LoopC.scan (0 : Int) W (fun i => ⟨[(2, .ptr 0 0 0), (3, .ptr 1 0 0), (32, .view (W.map Cel.c)), (33, .int .i64 W.length), (34, .int .i64 i)], [.rows 2 [Cel.c y], .rows 7 [Cel.c x]]⟩) (fun r => W.all (holdB y.Ks x.Token) = r.all (holdB y.Ks x.Token)) (by simp) (by simp [hWi]) rfl (fun i a r hi ha hG => ?_) fun hG => ?_
        · rw [hG]
          simp only [List.all_cons]
          by_cases q1 : 0 ≤ idI y.Ks a
          · by_cases q2 : (lkX y.Ks (idI y.Ks a)).Holder = x.Token
            · simp [hi, ha, cy_lock, hy, gvV, holdB, q1, q2, vcLoose, heapsOf]
              omega
            · simp [hi, ha, cy_lock, hy, gvV, holdB, q1, q2, vcLoose, heapsOf]
          · simp [hi, ha, cy_lock, hy, gvV, holdB, q1, vcLoose, heapsOf]
        · rw [hG]
          simp only [List.all_nil, Bool.true_and]
          by_cases q0 : x.Got = x.Want.length
          · simp [q0, cy_goal, hy, hx1, gvV, vcLoose, heapsOf]
          · by_cases q1 : 0 ≤ goalI y.Ks x
            · simp [q0, q1, cy_goal, hy, hx1, gvV, cContains, hgw, vcLoose, heapsOf]
            · simp [q0, q1, cy_goal, hy, hx1, gvV, vcLoose, heapsOf]
def cy_leaseRight : Ctr := C2 (fun (y : Yrd) (x : Lse) => okY y ∧ okK1 y.Ks ∧ x.Want.length ≤ 1073741824) fun y x => .bool (leaseB y.Ks x)
theorem known_leaseRight : Known Try.prog 114 cy_leaseRight := known_C2 (fun y x h => det_leaseRight y x h.1 h.2.1 h.2.2) fun y x => flat_bool _

/-! ### locks -/
def gotB (x : Lse) : Prop := (0 ≤ x.Got ∧ x.Got ≤ x.Want.length) ∧ x.Want.length ≤ 1073741824
def waitB (L : List Lse) (k : Lck) (t : Int) : Bool := decide (0 ≤ toI L t) && (!decide ((lsX L t).Got = (lsX L t).Want.length) && decide (nth (lsX L t).Want (lsX L t).Got.toNat 0 = k.ID))
def waitsB (L : List Lse) (k : Lck) : Nat → List Int → Bool
  | _, [] => true
  | i, t :: r => (!decide (t ∈ k.Wait.take i) && waitB L k t) && waitsB L k (i + 1) r
def heldB (L : List Lse) (k : Lck) : Bool := decide (k.Holder = 0) || (decide (0 ≤ toI L k.Holder) && decide (k.ID ∈ (lsX L k.Holder).Want.take (lsX L k.Holder).Got.toNat))
def lockB (L : List Lse) (k : Lck) : Bool := heldB L k && waitsB L k 0 k.Wait
theorem lsX_got {L : List Lse} (h : ∀ x ∈ L, gotB x) (n : Int) : gotB (lsX L n) := by
  rcases toI_b L n with h1 | ⟨h1, h2⟩
  · unfold lsX; rw [h1]
    exact ⟨⟨by simp [atK, Lse.zero], by simp [atK, Lse.zero]⟩, by simp [atK, Lse.zero]⟩
  · exact h _ (atK_mem h1 h2)
set_option maxHeartbeats 8000000 in
theorem det_lockRight (y : Yrd) (k : Lck) (hy : okY y) (hL : ∀ x ∈ y.Ls, gotB x) (hk : k.Wait.length ≤ 1073741824) : Det Try.prog 115 [en y, en k] [] (.bool (lockB y.Ls k)) [] := by
  refine det_finF mixed0 (knows_cons known_y_lease (knows_cons known_IdHas (knows_cons known_Contains knows_nil))) ok_waits_yard_lockRight 1 (by simp) ?_
  have hk1 : k.Wait.length ≤ 9223372036854775807 := by omega
  obtain ⟨⟨hh1, hh2⟩, hh3⟩ := lsX_got hL k.Holder
  have hhb : heldB y.Ls k = (decide (k.Holder = 0) || (decide (0 ≤ toI y.Ls k.Holder) && decide (k.ID ∈ (lsX y.Ls k.Holder).Want.take (lsX y.Ls k.Holder).Got.toNat))) := rfl
  unfold lsX at hh1 hh2 hh3 hhb
  generalize hX : atK Lse.zero y.Ls (toI y.Ls k.Holder) = X at hh1 hh2 hh3 hhb
  have hW : List.take X.Got.toNat (List.map Cel.c X.Want) = (List.take X.Got.toNat X.Want).map Cel.c := by simp
  have hWl : (List.take X.Got.toNat X.Want).length ≤ 9223372036854775807 := by rw [List.length_take]; omega
  generalize List.take X.Got.toNat X.Want = W at hW hWl hhb
  have key : (heldB y.Ls k = false ∧ ¬ k.Holder = 0 ∧ (¬ 0 ≤ toI y.Ls k.Holder ∨ k.ID ∉ W)) ∨ (heldB y.Ls k = true ∧ (k.Holder = 0 ∨ (¬ k.Holder = 0 ∧ 0 ≤ toI y.Ls k.Holder ∧ k.ID ∈ W))) := by
    rw [hhb]
    by_cases h0 : k.Holder = 0
    · exact .inr ⟨by simp [h0], .inl h0⟩
    · by_cases h1 : 0 ≤ toI y.Ls k.Holder
      · by_cases h2 : k.ID ∈ W
        · exact .inr ⟨by simp [h1, h2], .inr ⟨h0, h1, h2⟩⟩
        · exact .inl ⟨by simp [h0, h2], h0, .inr h2⟩
      · exact .inl ⟨by simp [h0, h1], h0, .inl h1⟩
  have hlk : lockB y.Ls k = (heldB y.Ls k && waitsB y.Ls k 0 k.Wait) := rfl
  rw [hlk]
  rcases key with ⟨hb, h0, h1 | h1⟩ | ⟨hb, h0 | ⟨h0, h1, h2⟩⟩
  · simp [ic_waits_yard_lockRight, rs_waits_yard_lockRight, hb, h0, h1, cy_lease, hy, gvV, hX, vcLoose, heapsOf]
  · by_cases h3 : 0 ≤ toI y.Ls k.Holder
    · simp [ic_waits_yard_lockRight, rs_waits_yard_lockRight, hb, h0, h1, h3, cy_lease, hy, gvV, cContains, hX, hW, hWl, hh1, hh2, vcLoose, heapsOf]
    · simp [ic_waits_yard_lockRight, rs_waits_yard_lockRight, hb, h0, h3, cy_lease, hy, gvV, hX, vcLoose, heapsOf]
  all_goals first | simp [ic_waits_yard_lockRight, rs_waits_yard_lockRight, hb, h0, h1, h2, cy_lease, hy, gvV, cContains, hX, hW, hWl, hh1, hh2, vcLoose, heapsOf] | simp [ic_waits_yard_lockRight, rs_waits_yard_lockRight, hb, h0]
  all_goals refine LoopC.scanB (0 : Int) k.Wait (fun i (_ : Unit) => ⟨[(2, .ptr 0 0 0), (3, .ptr 1 0 0), (35, .view (k.Wait.map Cel.c)), (36, .int .i64 k.Wait.length), (37, .int .i64 i)], [.rows 2 [Cel.c y], .rows 3 [Cel.c k]]⟩) (fun i _ r => waitsB y.Ls k 0 k.Wait = waitsB y.Ls k i r) () (by simp) (by first | (simp; done) | (simp [h0]; done)) rfl (fun i a r b hi ha hd hG => ?_) fun b hG => ?_
  all_goals rw [hG]
  all_goals simp only [waitsB]
  all_goals first | (simp; done) | skip
  all_goals
    obtain ⟨⟨gg1, gg2⟩, gg3⟩ := lsX_got hL a
    have hwb : waitB y.Ls k a = (decide (0 ≤ toI y.Ls a) && (!decide ((lsX y.Ls a).Got = (lsX y.Ls a).Want.length) && decide (nth (lsX y.Ls a).Want (lsX y.Ls a).Got.toNat 0 = k.ID))) := rfl
    unfold lsX at gg1 gg2 gg3 hwb
    generalize hZ : atK Lse.zero y.Ls (toI y.Ls a) = Z at gg1 gg2 gg3 hwb
    have hV : List.take i (List.map Cel.c k.Wait) = (List.take i k.Wait).map Cel.c := by simp
    have hVl : (List.take i k.Wait).length ≤ 9223372036854775807 := by rw [List.length_take]; omega
    generalize List.take i k.Wait = V at hV hVl ⊢
    rw [hwb]
    by_cases q1 : 0 ≤ toI y.Ls a
    · by_cases q2 : a ∈ V
      · simp [hi, ha, cy_lease, hy, gvV, cContains, hZ, hV, hVl, q1, q2, vcLoose, heapsOf]
        omega
      · by_cases q3 : Z.Got = Z.Want.length
        · simp [hi, ha, cy_lease, hy, gvV, cContains, hZ, hV, hVl, q1, q2, q3, vcLoose, heapsOf]
          omega
        · have q4 : Z.Got < Z.Want.length := by omega
          by_cases q5 : nth Z.Want Z.Got.toNat 0 = k.ID
          · simp [hi, ha, cy_lease, hy, gvV, cContains, hZ, hV, hVl, q1, q2, q3, q4, q5, gg1, vcLoose, heapsOf]
            omega
          · simp [hi, ha, cy_lease, hy, gvV, cContains, hZ, hV, hVl, q1, q2, q3, q4, q5, gg1, vcLoose, heapsOf]
            omega
    · simp [hi, ha, cy_lease, hy, gvV, hZ, q1, vcLoose, heapsOf]
end Go.Proofs.Ytnjpfoblmomnlaa.Sx
