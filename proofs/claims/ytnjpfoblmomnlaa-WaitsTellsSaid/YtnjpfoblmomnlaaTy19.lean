/- Heaps (package heap) as objects of one's own: what their things and places are, plainly; contracts of their methods over any memory. No conditions: a kit of our own. -/
import Derived.Test.YtnjpfoblmomnlaaTy9
namespace Go.Proofs.Ytnjpfoblmomnlaa.Sx
open Go Go.RowKit
set_option linter.unusedVariables false
set_option linter.unusedSimpArgs false

structure Thg where
  Id : Int
  Key : Int
  Seq : Int
  deriving DecidableEq
abbrev Thg.P : Type := Int × Int × Int × Unit
def Thg.to (x : Thg) : Thg.P := (x.Id, x.Key, x.Seq, ())
def Thg.of (y : Thg.P) : Thg := ⟨y.1, y.2.1, y.2.2.1⟩
instance : Cel Thg := Cel.iso Thg.to Thg.of (fun _ => rfl) (fun _ => rfl)
instance : Rd Thg := Rd.struct Thg.to Thg.of (fun _ => rfl) (fun _ => rfl) rfl
@[simp] theorem wf_Thg (x : Thg) : Rd.wf x = (Rd.wf x.Id ∧ Rd.wf x.Key ∧ Rd.wf x.Seq) := by
  show (Rd.wf x.Id ∧ Rd.wf x.Key ∧ Rd.wf x.Seq ∧ True) = _
  simp
def Thg.zero : Thg := ⟨0, 0, 0⟩
instance : Inhabited Thg := ⟨Thg.zero⟩
@[simp] theorem default_Thg : (default : Thg) = Thg.zero := rfl
@[simp] theorem c_Thg (x : Thg) : Cel.c x = [.int .i64 x.Id, .int .i64 x.Key, .int .i64 x.Seq] := rfl
@[simp] theorem en_Thg (x : Thg) : en x = .agg [.int .i64 x.Id, .int .i64 x.Key, .int .i64 x.Seq] := rfl
@[simp] theorem agg_Thg : Cel.agg Thg = true := rfl
@[simp] theorem u_Thg (H : List AObj) (a0 a1 a2 : AV) : Cel.u (α := Thg) H [a0, a1, a2] = ⟨Cel.u H [a0], Cel.u H [a1], Cel.u H [a2]⟩ := rfl
@[simp] theorem ok_Thg (H : List AObj) (a0 a1 a2 : AV) : Cel.ok (α := Thg) H [a0, a1, a2] = (Cel.ok (α := Int) H [a0] ∧ Cel.ok (α := Int) H [a1] ∧ Cel.ok (α := Int) H [a2]) := by
  show (Cel.ok (α := Int) H [a0] ∧ Cel.ok (α := Int) H [a1] ∧ Cel.ok (α := Int) H [a2] ∧ ([] : List AV) = []) = _
  simp
@[simp high] theorem okc_Thg (H : List AObj) (x : Thg) : Cel.ok (α := Thg) H [.int .i64 x.Id, .int .i64 x.Key, .int .i64 x.Seq] := Cel.ok_c H x
@[simp] theorem eta_Thg (x : Thg) : Thg.mk x.Id x.Key x.Seq = x := rfl
@[simp] theorem nth_Thg (xs : List Thg) (n : Nat) : nth (xs.map Cel.c) n [.int .i64 0, .int .i64 0, .int .i64 0] = Cel.c (nth xs n Thg.zero) := nth_c rfl
namespace Hp
/-! maps -/
def mget {β : Type} (m : List (Int × β)) (k : Int) : Option β := (m.find? fun x => x.1 == k).map (·.2)
def mput {β : Type} : List (Int × β) → Int → β → List (Int × β)
  | [], n, v => [(n, v)]
  | x :: es, n, v => if x.1 = n then (n, v) :: es else x :: mput es n v
def mdel {β : Type} : List (Int × β) → Int → List (Int × β)
  | [], _ => []
  | x :: es, n => if x.1 = n then es else x :: mdel es n
theorem mget_put {β : Type} (m : List (Int × β)) (k : Int) (v : β) (j : Int) : mget (mput m k v) j = if j = k then some v else mget m j := by
  induction m with
  | nil =>
    simp only [mput, mget, List.find?_cons, List.find?_nil, Option.map_none]
    by_cases h : j = k
    · subst h; simp
    · have : (k == j) = false := by simpa using fun e => h e.symm
      simp [this, h]
  | cons x m ih =>
    simp only [mput]
    split
    · rename_i h
      simp only [mget, List.find?_cons]
      by_cases h2 : j = k
      · subst h2; simp
      · have : (k == j) = false := by simpa using fun e => h2 e.symm
        have h3 : (x.1 == j) = false := by rw [h]; exact this
        simp [this, h2, h3]
    · rename_i h
      simp only [mget, List.find?_cons] at ih ⊢
      by_cases h3 : (x.1 == j) = true
      · have h4 : ¬ j = k := by
          intro e; apply h; rw [← e]; simpa using h3
        simp [h3, h4]
      · simp only [Bool.not_eq_true] at h3
        simp only [h3]; exact ih
/-- Keys stand once. -/
def Once {β : Type} (m : List (Int × β)) : Prop := (m.map (·.1)).Nodup
theorem mem_put_keys {β : Type} {m : List (Int × β)} {k : Int} {v : β} {j : Int} : j ∈ (mput m k v).map (·.1) ↔ j = k ∨ j ∈ m.map (·.1) := by
  induction m with
  | nil => simp [mput]
  | cons x m ih =>
    simp only [mput]
    split
    · rename_i h; subst h; simp
    · simp only [List.map_cons, List.mem_cons, ih]; 
      constructor
      · rintro (h | h | h) <;> simp [h]
      · rintro (h | h | h) <;> simp [h]
theorem once_put {β : Type} {m : List (Int × β)} (h : Once m) (k : Int) (v : β) : Once (mput m k v) := by
  induction m with
  | nil => simp [mput, Once]
  | cons x m ih =>
    simp only [mput]
    simp only [Once, List.map_cons, List.nodup_cons] at h
    split
    · rename_i hk
      simp only [Once, List.map_cons, List.nodup_cons]
      rw [← hk]; exact h
    · rename_i hk
      simp only [Once, List.map_cons, List.nodup_cons]
      refine ⟨fun hm => ?_, ih h.2⟩
      rcases mem_put_keys.1 hm with e | e
      · exact hk e
      · exact h.1 e
theorem mget_none {β : Type} {m : List (Int × β)} {k : Int} : mget m k = none ↔ k ∉ m.map (·.1) := by
  simp only [mget, Option.map_eq_none_iff, List.find?_eq_none, List.mem_map, not_exists, not_and]
  constructor
  · intro h x hx e
    have := h x hx
    simp [e] at this
  · intro h x hx
    simpa using h x hx
theorem mget_del {β : Type} {m : List (Int × β)} (h : Once m) (k j : Int) : mget (mdel m k) j = if j = k then none else mget m j := by
  induction m with
  | nil => simp [mdel, mget]
  | cons x m ih =>
    simp only [Once, List.map_cons, List.nodup_cons] at h
    simp only [mdel]
    split
    · rename_i hk
      by_cases hj : j = k
      · rw [if_pos hj, mget_none, hj, ← hk]; exact h.1
      · rw [if_neg hj]
        have : (x.1 == j) = false := by rw [hk]; simpa using fun e => hj e.symm
        simp [mget, List.find?_cons, this]
    · rename_i hk
      have ih := ih h.2
      simp only [mget, List.find?_cons] at ih ⊢
      by_cases h3 : (x.1 == j) = true
      · have h4 : ¬ j = k := by intro e; apply hk; rw [← e]; simpa using h3
        simp [h3, h4]
      · simp only [Bool.not_eq_true] at h3
        simp only [h3]; exact ih
theorem mem_del_keys {β : Type} {m : List (Int × β)} (h : Once m) {k j : Int} : j ∈ (mdel m k).map (·.1) ↔ j ≠ k ∧ j ∈ m.map (·.1) := by
  have := mget_del h k j
  by_cases hj : j = k
  · rw [if_pos hj] at this
    have := mget_none.1 this
    constructor
    · intro h; exact absurd h this
    · rintro ⟨h, _⟩; exact absurd hj h
  · rw [if_neg hj] at this
    constructor
    · intro hm
      refine ⟨hj, ?_⟩
      by_cases hx : j ∈ m.map (·.1)
      · exact hx
      · rw [mget_none.2 hx, mget_none] at this; exact absurd hm this
    · rintro ⟨_, hm⟩
      by_cases hx : j ∈ (mdel m k).map (·.1)
      · exact hx
      · rw [mget_none.2 hx] at this; exact absurd hm (mget_none.1 this.symm)
theorem once_del {β : Type} {m : List (Int × β)} (h : Once m) (k : Int) : Once (mdel m k) := by
  induction m with
  | nil => exact h
  | cons x m ih =>
    have h0 := h
    simp only [Once, List.map_cons, List.nodup_cons] at h
    simp only [mdel]
    split
    · exact h.2
    · simp only [Once, List.map_cons, List.nodup_cons]
      refine ⟨fun hm => h.1 ((mem_del_keys h.2).1 hm).2, ih h.2⟩

/-! heaps -/
def ahead (x y : Thg) : Bool := decide (y.Key < x.Key) || (decide (y.Key = x.Key) && (decide (x.Seq < y.Seq) || (decide (x.Seq = y.Seq) && decide (x.Id < y.Id))))
theorem ahead_irr (x : Thg) : ahead x x = false := by simp [ahead]
theorem ahead_asym {x y : Thg} (h : ahead x y = true) : ahead y x = false := by
  simp [ahead] at h ⊢; omega
theorem le_trans' {x y z : Thg} (h1 : ahead y x = false) (h2 : ahead z y = false) : ahead z x = false := by
  simp [ahead] at h1 h2 ⊢; omega
abbrev HpS := List Thg × List (Int × Int)
/-- A thing is laid at a place. -/
def hset (h : HpS) (i : Nat) (x : Thg) : HpS := (h.1.set i x, mput h.2 x.Id (i : Int))
def upF (h : HpS) (i : Nat) (x : Thg) : HpS × Nat :=
  if hc : 0 < i ∧ ahead x (nth h.1 ((i - 1) / 2) Thg.zero) = true then upF (hset h i (nth h.1 ((i - 1) / 2) Thg.zero)) ((i - 1) / 2) x else (hset h i x, i)
termination_by i
decreasing_by omega
/-- The child that is ahead. -/
def kid (a : List Thg) (i : Nat) : Nat := if 2 * i + 1 + 1 < a.length ∧ ahead (nth a (2 * i + 1 + 1) Thg.zero) (nth a (2 * i + 1) Thg.zero) = true then 2 * i + 1 + 1 else 2 * i + 1
theorem kid_gt (a : List Thg) (i : Nat) : i < kid a i := by unfold kid; split <;> omega
def downF (h : HpS) (i : Nat) (x : Thg) : HpS :=
  if hc : kid h.1 i < h.1.length ∧ ahead (nth h.1 (kid h.1 i) Thg.zero) x = true then downF (hset h i (nth h.1 (kid h.1 i) Thg.zero)) (kid h.1 i) x else hset h i x
termination_by h.1.length - i
decreasing_by
  have := kid_gt h.1 i
  simp only [hset, List.length_set]; omega
def fixF (h : HpS) (i : Nat) (x : Thg) : HpS := if (upF h i x).2 = i then downF (upF h i x).1 i x else (upF h i x).1
def putF (h : HpS) (x : Thg) : HpS × Bool := match mget h.2 x.Id with
  | some i => (fixF h i.toNat x, false)
  | none => (fixF (h.1 ++ [x], h.2) h.1.length x, true)
def dropF (h : HpS) (id : Int) : HpS × Bool := match mget h.2 id with
  | none => (h, false)
  | some i => if (nth h.1 (h.1.length - 1) Thg.zero).Id = id then ((h.1.take (h.1.length - 1), mdel h.2 id), true) else (fixF (h.1.take (h.1.length - 1), mdel h.2 id) i.toNat (nth h.1 (h.1.length - 1) Thg.zero), true)
def firstF (h : HpS) : Int × Bool := if h.1.length = 0 then (0, false) else ((nth h.1 0 Thg.zero).Id, true)
def popF (h : HpS) : HpS × Int × Bool := if (firstF h).2 = true then ((dropF h (firstF h).1).1, firstF h) else (h, firstF h)

def gt (a : List Thg) (i : Nat) : Thg := nth a i Thg.zero
theorem gt_set (a : List Thg) (i : Nat) (x : Thg) (j : Nat) (hi : i < a.length) : gt (a.set i x) j = if j = i then x else gt a j := by
  simp only [gt, nth, List.getD_eq_getElem?_getD]
  by_cases h : j = i
  · subst h; simp [hi]
  · simp [h, List.getElem?_set_ne (fun e => h e.symm)]
def le' (x y : Thg) : Prop := ahead y x = false
def Ok (a : List Thg) : Prop := ∀ j, 0 < j → j < a.length → le' (gt a ((j - 1) / 2)) (gt a j)
def Oth (a : List Thg) (i : Nat) : Prop := ∀ j, 0 < j → j < a.length → j ≠ i → (j - 1) / 2 ≠ i → le' (gt a ((j - 1) / 2)) (gt a j)
def Kid (a : List Thg) (i : Nat) : Prop := ∀ j, 0 < j → j < a.length → (j - 1) / 2 = i → 0 < i → le' (gt a ((i - 1) / 2)) (gt a j)
def Low (a : List Thg) (i : Nat) : Prop := ∀ j, 0 < j → j < a.length → (j - 1) / 2 = i → le' (gt a i) (gt a j)
def Up (a : List Thg) (i : Nat) : Prop := 0 < i → le' (gt a ((i - 1) / 2)) (gt a i)
def Mem (a : List Thg) (y : Thg) : Prop := ∃ j, j < a.length ∧ gt a j = y
structure AtH (h : HpS) (i : Nat) (x : Thg) : Prop where
  once : Once h.2
  at_ : ∀ j, j < h.1.length → j ≠ i → mget h.2 (gt h.1 j).Id = some (j : Int)
  key : ∀ k, k ∈ h.2.map (·.1) → k = x.Id ∨ ∃ j, j < h.1.length ∧ j ≠ i ∧ (gt h.1 j).Id = k
  ne : ∀ j, j < h.1.length → j ≠ i → (gt h.1 j).Id ≠ x.Id
structure At (h : HpS) : Prop where
  once : Once h.2
  at_ : ∀ j, j < h.1.length → mget h.2 (gt h.1 j).Id = some (j : Int)
  key : ∀ k, k ∈ h.2.map (·.1) → ∃ j, j < h.1.length ∧ (gt h.1 j).Id = k
theorem At.set {h : HpS} {i : Nat} {x : Thg} (H : AtH h i x) (hi : i < h.1.length) : At (hset h i x) := by
  refine ⟨once_put H.once _ _, fun j hj => ?_, fun k hk => ?_⟩
  · simp only [hset, List.length_set] at hj ⊢
    rw [gt_set _ _ _ _ hi, mget_put]
    by_cases hji : j = i
    · simp [hji]
    · simp only [hji, if_false, H.ne j hj hji]
      exact H.at_ j hj hji
  · simp only [hset, List.length_set] at hk ⊢
    rcases mem_put_keys.1 hk with e | e
    · exact ⟨i, hi, by rw [gt_set _ _ _ _ hi, if_pos rfl, e]⟩
    · rcases H.key k e with e | ⟨j, h1, h2, h3⟩
      · exact ⟨i, hi, by rw [gt_set _ _ _ _ hi, if_pos rfl, e]⟩
      · exact ⟨j, h1, by rw [gt_set _ _ _ _ hi, if_neg h2, h3]⟩
theorem At.inj {h : HpS} (H : At h) {i j : Nat} (hi : i < h.1.length) (hj : j < h.1.length) (e : (gt h.1 i).Id = (gt h.1 j).Id) : i = j := by
  have h1 := H.at_ i hi
  rw [e, H.at_ j hj] at h1
  have := Option.some.inj h1
  omega
/-- One thing moves into the hole, and leaves one. -/
theorem AtH.move {h : HpS} {i p : Nat} {x : Thg} (H : AtH h i x) (hi : i < h.1.length) (hp : p < h.1.length) (hne : p ≠ i) : AtH (hset h i (gt h.1 p)) p x := by
  have dist : ∀ j, j < h.1.length → j ≠ i → j ≠ p → (gt h.1 j).Id ≠ (gt h.1 p).Id := fun j hj h1 h2 e => by
    have a := H.at_ j hj h1
    rw [e, H.at_ p hp hne] at a
    have := Option.some.inj a
    omega
  refine ⟨once_put H.once _ _, fun j hj hjp => ?_, fun k hk => ?_, fun j hj hjp => ?_⟩
  · simp only [hset, List.length_set] at hj ⊢
    rw [gt_set _ _ _ _ hi, mget_put]
    by_cases hji : j = i
    · simp [hji]
    · simp only [hji, if_false, dist j hj hji hjp]
      exact H.at_ j hj hji
  · simp only [hset, List.length_set] at hk ⊢
    have hi' : ∃ j, j < h.1.length ∧ j ≠ p ∧ (gt (h.1.set i (gt h.1 p)) j).Id = (gt h.1 p).Id := ⟨i, hi, fun e => hne e.symm, by rw [gt_set _ _ _ _ hi, if_pos rfl]⟩
    rcases mem_put_keys.1 hk with e | e
    · rw [e]; exact .inr hi'
    · rcases H.key k e with e | ⟨j, h1, h2, h3⟩
      · exact .inl e
      · by_cases hjp : j = p
        · rw [← h3, hjp]; exact .inr hi'
        · exact .inr ⟨j, h1, hjp, by rw [gt_set _ _ _ _ hi, if_neg h2, h3]⟩
  · simp only [hset, List.length_set] at hj ⊢
    rw [gt_set _ _ _ _ hi]
    by_cases hji : j = i
    · simp only [hji, if_true]; exact H.ne p hp hne
    · simp only [hji, if_false]; exact H.ne j hj hji
theorem mem_move {a : List Thg} {i p : Nat} {x : Thg} (hi : i < a.length) (hp : p < a.length) (hne : p ≠ i) (y : Thg) : Mem ((a.set i (gt a p)).set p x) y ↔ Mem (a.set i x) y := by
  have hp' : p < (a.set i (gt a p)).length := by simpa using hp
  simp only [Mem, List.length_set]
  constructor
  · rintro ⟨j, hj, e⟩
    rw [gt_set _ _ _ _ hp', gt_set _ _ _ _ hi] at e
    split at e
    · exact ⟨i, hi, by rw [gt_set _ _ _ _ hi, if_pos rfl]; exact e⟩
    · split at e
      · exact ⟨p, hp, by rw [gt_set _ _ _ _ hi, if_neg hne]; exact e⟩
      · rename_i h2; exact ⟨j, hj, by rw [gt_set _ _ _ _ hi, if_neg h2]; exact e⟩
  · rintro ⟨j, hj, e⟩
    rw [gt_set _ _ _ _ hi] at e
    split at e
    · exact ⟨p, hp, by rw [gt_set _ _ _ _ hp', if_pos rfl]; exact e⟩
    · rename_i h2
      by_cases hjp : j = p
      · subst hjp
        exact ⟨i, hi, by rw [gt_set _ _ _ _ hp', if_neg (fun e => hne e.symm), gt_set _ _ _ _ hi, if_pos rfl]; exact e⟩
      · exact ⟨j, hj, by rw [gt_set _ _ _ _ hp', if_neg hjp, gt_set _ _ _ _ hi, if_neg h2]; exact e⟩
structure Res (h : HpS) (a : List Thg) : Prop where
  ok : Ok h.1
  at_ : At h
  len : h.1.length = a.length
  mem : ∀ y, Mem h.1 y ↔ Mem a y
theorem up_ok (h : HpS) (i : Nat) (x : Thg) (hi : i < h.1.length) (H : AtH h i x) (h1 : Oth (h.1.set i x) i) (h2 : Kid (h.1.set i x) i) (h3 : Low (h.1.set i x) i) : Res (upF h i x).1 (h.1.set i x) := by
  induction i using Nat.strongRecOn generalizing h with
  | _ i ih =>
  rw [upF]
  by_cases hc : 0 < i ∧ ahead x (nth h.1 ((i - 1) / 2) Thg.zero) = true
  · rw [dif_pos hc]
    obtain ⟨hc1, hc2⟩ := hc
    have hp : (i - 1) / 2 < h.1.length := by omega
    have hne : (i - 1) / 2 ≠ i := by omega
    change ahead x (gt h.1 ((i - 1) / 2)) = true at hc2
    change Res (upF (hset h i (gt h.1 ((i - 1) / 2))) ((i - 1) / 2) x).1 _
    generalize hpd : (i - 1) / 2 = p at *
    have hlen : (hset h i (gt h.1 p)).1.length = h.1.length := by simp [hset]
    have ev : ∀ j, gt ((h.1.set i (gt h.1 p)).set p x) j = if j = p then x else if j = i then gt h.1 p else gt h.1 j := fun j => by
      rw [gt_set _ _ _ _ (by simpa using hp), gt_set _ _ _ _ hi]
    have eo : ∀ j, gt (h.1.set i x) j = if j = i then x else gt h.1 j := fun j => gt_set _ _ _ _ hi
    have hxp : le' x (gt h.1 p) := ahead_asym hc2
    have r := ih p (by omega) (hset h i (gt h.1 p)) (by rw [hlen]; exact hp) (H.move hi hp hne) (fun j hj0 hj hjp hpp => ?_) (fun j hj0 hj hpp hp0 => ?_) (fun j hj0 hj hpp => ?_)
    · exact ⟨r.ok, r.at_, by rw [r.len]; simp [hset], fun y => (r.mem y).trans (mem_move hi hp hne y)⟩
    · simp only [hset, List.length_set] at hj
      simp only [hset]
      rw [ev, ev, if_neg hpp, if_neg hjp]
      have hji : j ≠ i := fun e => hpp (by rw [e, hpd])
      rw [if_neg hji]
      by_cases hpi : (j - 1) / 2 = i
      · rw [if_pos hpi]
        have := h2 j hj0 (by simpa using hj) hpi hc1
        rwa [hpd, eo, eo, if_neg hne, if_neg hji] at this
      · rw [if_neg hpi]
        have := h1 j hj0 (by simpa using hj) hji hpi
        rwa [eo, eo, if_neg hpi, if_neg hji] at this
    · simp only [hset, List.length_set] at hj
      simp only [hset]
      have hpp' : (p - 1) / 2 ≠ p := by omega
      have hpi : (p - 1) / 2 ≠ i := by omega
      rw [ev, ev, if_neg hpp', if_neg hpi, if_neg (by omega)]
      have up : le' (gt h.1 ((p - 1) / 2)) (gt h.1 p) := by
        have := h1 p hp0 (by simpa using hp) hne hpi
        rwa [eo, eo, if_neg hpi, if_neg hne] at this
      by_cases hji : j = i
      · rw [if_pos hji]; exact up
      · rw [if_neg hji]
        have := h1 j hj0 (by simpa using hj) hji (by omega)
        rw [eo, eo, if_neg (by omega), if_neg hji, hpp] at this
        exact le_trans' up this
    · simp only [hset, List.length_set] at hj
      simp only [hset]
      rw [ev, ev, if_pos rfl, if_neg (by omega)]
      by_cases hji : j = i
      · rw [if_pos hji]; exact hxp
      · rw [if_neg hji]
        have := h1 j hj0 (by simpa using hj) hji (by omega)
        rw [eo, eo, if_neg (by omega), if_neg hji, hpp] at this
        exact le_trans' hxp this
  · rw [dif_neg hc]
    refine ⟨fun j hj0 hj => ?_, At.set H hi, by simp [hset], fun y => Iff.rfl⟩
    simp only [hset] at hj ⊢
    by_cases hji : j = i
    · subst hji
      rw [gt_set _ _ _ _ hi, gt_set _ _ _ _ hi, if_pos rfl, if_neg (by omega)]
      have : ¬ ahead x (nth h.1 ((j - 1) / 2) Thg.zero) = true := fun e => hc ⟨hj0, e⟩
      simpa [le', gt] using this
    · by_cases hpi : (j - 1) / 2 = i
      · rw [hpi]; exact h3 j hj0 hj hpi
      · exact h1 j hj0 hj hji hpi
theorem le_refl' (x : Thg) : le' x x := ahead_irr x
theorem kid_le (a : List Thg) (i j : Nat) (hj0 : 0 < j) (hj : j < a.length) (hp : (j - 1) / 2 = i) : kid a i < a.length ∧ le' (gt a (kid a i)) (gt a j) := by
  have h2 : j = 2 * i + 1 ∨ j = 2 * i + 1 + 1 := by omega
  unfold kid
  split
  · rename_i hc
    refine ⟨hc.1, ?_⟩
    rcases h2 with h | h
    · rw [h]; exact ahead_asym hc.2
    · rw [h]; exact le_refl' _
  · rename_i hc
    refine ⟨by omega, ?_⟩
    rcases h2 with h | h
    · rw [h]; exact le_refl' _
    · rw [h]
      have : ¬ ahead (nth a (2 * i + 1 + 1) Thg.zero) (nth a (2 * i + 1) Thg.zero) = true := fun e => hc ⟨by omega, e⟩
      simpa [le', gt] using this
theorem kid_par (a : List Thg) (i : Nat) : (kid a i - 1) / 2 = i := by unfold kid; split <;> omega
theorem down_ok (h : HpS) (i : Nat) (x : Thg) (hi : i < h.1.length) (H : AtH h i x) (h1 : Oth (h.1.set i x) i) (h2 : Kid (h.1.set i x) i) (h3 : Up (h.1.set i x) i) : Res (downF h i x) (h.1.set i x) := by
  generalize hn : h.1.length - i = n
  induction n using Nat.strongRecOn generalizing h i with
  | _ n ih =>
  rw [downF]
  by_cases hc : kid h.1 i < h.1.length ∧ ahead (nth h.1 (kid h.1 i) Thg.zero) x = true
  · rw [dif_pos hc]
    obtain ⟨hp, hc2⟩ := hc
    change ahead (gt h.1 (kid h.1 i)) x = true at hc2
    change Res (downF (hset h i (gt h.1 (kid h.1 i))) (kid h.1 i) x) _
    have hkg := kid_gt h.1 i
    have hpar := kid_par h.1 i
    have hkl := kid_le h.1 i
    generalize hpd : kid h.1 i = p at *
    have hne : p ≠ i := by omega
    have hlen : (hset h i (gt h.1 p)).1.length = h.1.length := by simp [hset]
    have ev : ∀ j, gt ((h.1.set i (gt h.1 p)).set p x) j = if j = p then x else if j = i then gt h.1 p else gt h.1 j := fun j => by
      rw [gt_set _ _ _ _ (by simpa using hp), gt_set _ _ _ _ hi]
    have eo : ∀ j, gt (h.1.set i x) j = if j = i then x else gt h.1 j := fun j => gt_set _ _ _ _ hi
    have hxp : le' (gt h.1 p) x := ahead_asym hc2
    have r := ih (h.1.length - p) (by omega) (hset h i (gt h.1 p)) p (by rw [hlen]; exact hp) (H.move hi hp hne) (fun j hj0 hj hjp hpp => ?_) (fun j hj0 hj hpp hp0 => ?_) (fun hp0 => ?_) (by rw [hlen])
    · exact ⟨r.ok, r.at_, by rw [r.len]; simp [hset], fun y => (r.mem y).trans (mem_move hi hp hne y)⟩
    · simp only [hset, List.length_set] at hj
      simp only [hset]
      rw [ev, ev, if_neg hpp, if_neg hjp]
      by_cases hji : j = i
      · rw [if_pos hji, if_neg (by omega)]
        have := h2 p (by omega) (by simpa using hp) hpar (by omega)
        rw [eo, eo, if_neg (by omega), if_neg hne] at this
        rw [hji]; exact this
      · rw [if_neg hji]
        by_cases hpi : (j - 1) / 2 = i
        · rw [if_pos hpi]; exact (hkl j hj0 hj hpi).2
        · rw [if_neg hpi]
          have := h1 j hj0 (by simpa using hj) hji hpi
          rwa [eo, eo, if_neg hpi, if_neg hji] at this
    · simp only [hset, List.length_set] at hj
      simp only [hset]
      rw [ev, ev, hpar, if_neg (by omega), if_pos rfl, if_neg (by omega), if_neg (by omega)]
      have := h1 j hj0 (by simpa using hj) (by omega) (by omega)
      rwa [eo, eo, hpp, if_neg hne, if_neg (by omega)] at this
    · simp only [hset]
      rw [ev, ev, hpar, if_neg (by omega), if_pos rfl, if_pos rfl]
      exact hxp
  · rw [dif_neg hc]
    refine ⟨fun j hj0 hj => ?_, At.set H hi, by simp [hset], fun y => Iff.rfl⟩
    simp only [hset, List.length_set] at hj
    simp only [hset]
    by_cases hji : j = i
    · subst hji; exact h3 hj0
    · by_cases hpi : (j - 1) / 2 = i
      · rw [gt_set _ _ _ _ hi, gt_set _ _ _ _ hi, if_pos hpi, if_neg hji]
        obtain ⟨k1, k2⟩ := kid_le h.1 i j hj0 hj hpi
        have : ¬ ahead (nth h.1 (kid h.1 i) Thg.zero) x = true := fun e => hc ⟨k1, e⟩
        have : le' x (gt h.1 (kid h.1 i)) := by simpa [le', gt] using this
        exact le_trans' this k2
      · exact h1 j hj0 (by simpa using hj) hji hpi
theorem up_len (h : HpS) (i : Nat) (x : Thg) : (upF h i x).2 ≤ i ∧ ((upF h i x).2 = i → (upF h i x).1 = hset h i x) := by
  rw [upF]
  split
  · rename_i hc
    have : ∀ (n : Nat) (h : HpS) (i : Nat), i ≤ n → (upF h i x).2 ≤ i := fun n => by
      induction n with
      | zero => intro h i hi; rw [upF, dif_neg (by omega)]; exact Nat.le_refl _
      | succ n ih =>
        intro h i hi
        rw [upF]
        split
        · have := ih (hset h i (nth h.1 ((i - 1) / 2) Thg.zero)) ((i - 1) / 2) (by omega)
          omega
        · exact Nat.le_refl _
    have := this _ (hset h i (nth h.1 ((i - 1) / 2) Thg.zero)) ((i - 1) / 2) (Nat.le_refl _)
    exact ⟨by omega, fun e => by omega⟩
  · exact ⟨Nat.le_refl _, fun _ => rfl⟩
/-- A hole is filled, and the thing brought to where it belongs. -/
theorem fix_ok (h : HpS) (i : Nat) (x : Thg) (hi : i < h.1.length) (H : AtH h i x) (h1 : Oth (h.1.set i x) i) (h2 : Kid (h.1.set i x) i) : Res (fixF h i x) (h.1.set i x) := by
  have up := up_len h i x
  have eo : ∀ j, gt (h.1.set i x) j = if j = i then x else gt h.1 j := fun j => gt_set _ _ _ _ hi
  unfold fixF
  by_cases hc : 0 < i ∧ ahead x (nth h.1 ((i - 1) / 2) Thg.zero) = true
  · have hlow : Low (h.1.set i x) i := fun j hj0 hj hp => by
      have := h2 j hj0 hj hp hc.1
      rw [eo, eo, if_neg (by omega), if_neg (by omega)] at this
      rw [eo, eo, if_pos rfl, if_neg (by omega)]
      exact le_trans' (ahead_asym hc.2) this
    have r := up_ok h i x hi H h1 h2 hlow
    have hne : ¬ (upF h i x).2 = i := by
      rw [upF, dif_pos hc]
      have := (up_len (hset h i (nth h.1 ((i - 1) / 2) Thg.zero)) ((i - 1) / 2) x).1
      omega
    rw [if_neg hne]; exact r
  · have e : upF h i x = (hset h i x, i) := by rw [upF, dif_neg hc]
    rw [e, if_pos rfl]
    have H' : AtH (hset h i x) i x := by
      have A := At.set H hi
      refine ⟨A.once, fun j hj hji => A.at_ j hj, fun k hk => ?_, fun j hj hji => ?_⟩
      · obtain ⟨j, h1, h2⟩ := A.key k hk
        by_cases hji : j = i
        · left
          rw [← h2, hji]
          simp only [hset]; rw [gt_set _ _ _ _ hi, if_pos rfl]
        · exact .inr ⟨j, h1, hji, h2⟩
      · simp only [hset, List.length_set] at hj ⊢
        rw [gt_set _ _ _ _ hi, if_neg hji]; exact H.ne j hj hji
    have ss : (hset h i x).1.set i x = h.1.set i x := by simp [hset]
    have r := down_ok (hset h i x) i x (by simp [hset]; exact hi) H' (by rw [ss]; exact h1) (by rw [ss]; exact h2) (by
      rw [ss]; intro h0
      rw [eo, eo, if_neg (by omega), if_pos rfl]
      have : ¬ ahead x (nth h.1 ((i - 1) / 2) Thg.zero) = true := fun e => hc ⟨h0, e⟩
      simpa [le', gt] using this)
    rw [ss] at r; exact r
structure HpOk (h : HpS) : Prop where
  ok : Ok h.1
  at_ : At h
theorem hp_new : HpOk ([], []) := ⟨fun j _ h => by simp at h, ⟨by simp [Once], fun j h => by simp at h, fun k h => by simp at h⟩⟩
theorem gt_app {a : List Thg} {x : Thg} {j : Nat} : gt (a ++ [x]) j = if j < a.length then gt a j else if j = a.length then x else Thg.zero := by
  simp only [gt, nth, List.getD_eq_getElem?_getD]
  by_cases h : j < a.length
  · simp [h, List.getElem?_append_left h]
  · rw [if_neg h, List.getElem?_append_right (by omega)]
    by_cases h2 : j = a.length
    · subst h2; simp
    · rw [if_neg h2]
      have : 1 ≤ j - a.length := by omega
      simp [List.getElem?_eq_none (l := [x]) (i := j - a.length) (by simpa using this)]
/-- A thing that isn't there is put in. -/
theorem put_new (h : HpS) (H : HpOk h) (x : Thg) (hx : ∀ y, Mem h.1 y → y.Id ≠ x.Id) : HpOk (putF h x).1 ∧ (putF h x).2 = true ∧ (putF h x).1.1.length = h.1.length + 1 ∧ ∀ y, Mem (putF h x).1.1 y ↔ y = x ∨ Mem h.1 y := by
  have hn : mget h.2 x.Id = none := mget_none.2 fun hk => by
    obtain ⟨j, h1, h2⟩ := H.at_.key _ hk
    exact hx _ ⟨j, h1, rfl⟩ h2
  have ss : (h.1 ++ [x]).set h.1.length x = h.1 ++ [x] := by simp
  have hl : (h.1 ++ [x]).length = h.1.length + 1 := by simp
  have r : Res (fixF (h.1 ++ [x], h.2) h.1.length x) ((h.1 ++ [x]).set h.1.length x) := fix_ok (h.1 ++ [x], h.2) h.1.length x (by rw [hl]; exact Nat.lt_succ_self _) ⟨H.at_.once, fun j hj hji => by
      simp only [hl] at hj ⊢
      rw [gt_app, if_pos (by omega)]
      exact H.at_.at_ j (by omega), fun k hk => by
      obtain ⟨j, h1, h2⟩ := H.at_.key _ hk
      exact .inr ⟨j, by simp only [hl]; omega, by omega, by rw [gt_app, if_pos h1]; exact h2⟩, fun j hj hji => by
      simp only [hl] at hj ⊢
      rw [gt_app, if_pos (by omega)]
      exact hx _ ⟨j, by omega, rfl⟩⟩ (fun j hj0 hj h1 h2 => by
      simp only [ss, hl] at hj ⊢
      rw [gt_app, gt_app, if_pos (by omega), if_pos (by omega)]
      exact H.ok j hj0 (by omega)) (fun j hj0 hj h1 h2 => by
      simp only [ss, hl] at hj
      omega)
  have e : putF h x = (fixF (h.1 ++ [x], h.2) h.1.length x, true) := by simp only [putF, hn]
  rw [e]
  rw [ss] at r
  refine ⟨⟨r.ok, r.at_⟩, rfl, by rw [r.len, hl], fun y => (r.mem y).trans ?_⟩
  simp only [Mem, hl]
  constructor
  · rintro ⟨j, h1, h2⟩
    rw [gt_app] at h2
    by_cases hj : j < h.1.length
    · rw [if_pos hj] at h2; exact .inr ⟨j, hj, h2⟩
    · rw [if_neg hj, if_pos (by omega)] at h2; exact .inl h2.symm
  · rintro (rfl | ⟨j, h1, h2⟩)
    · exact ⟨h.1.length, by omega, by rw [gt_app, if_neg (by omega), if_pos rfl]⟩
    · exact ⟨j, by omega, by rw [gt_app, if_pos h1]; exact h2⟩
theorem gt_take {a : List Thg} {n j : Nat} (h : j < n) : gt (a.take n) j = gt a j := by
  simp [gt, nth, List.getD_eq_getElem?_getD, List.getElem?_take, h]
theorem root_le {a : List Thg} (h : Ok a) : ∀ j, j < a.length → le' (gt a 0) (gt a j) := fun j => by
  induction j using Nat.strongRecOn with
  | _ j ih =>
    intro hj
    by_cases h0 : j = 0
    · subst h0; exact le_refl' _
    · exact le_trans' (ih ((j - 1) / 2) (by omega) (by omega)) (h j (by omega) hj)
/-- A thing is taken out. -/
theorem drop_ok (h : HpS) (H : HpOk h) (i : Nat) (hi : i < h.1.length) : HpOk (dropF h (gt h.1 i).Id).1 ∧ (dropF h (gt h.1 i).Id).2 = true ∧ (dropF h (gt h.1 i).Id).1.1.length + 1 = h.1.length ∧ ∀ y, Mem (dropF h (gt h.1 i).Id).1.1 y ↔ Mem h.1 y ∧ y ≠ gt h.1 i := by
  have hm := H.at_.at_ i hi
  have hlt : (h.1.take (h.1.length - 1)).length = h.1.length - 1 := by simp
  have gtk : ∀ j, j < h.1.length - 1 → gt (h.1.take (h.1.length - 1)) j = gt h.1 j := fun j hj => gt_take hj
  have inj := fun {a b : Nat} => @At.inj h H.at_ a b
  have e : dropF h (gt h.1 i).Id = if (gt h.1 (h.1.length - 1)).Id = (gt h.1 i).Id then ((h.1.take (h.1.length - 1), mdel h.2 (gt h.1 i).Id), true) else (fixF (h.1.take (h.1.length - 1), mdel h.2 (gt h.1 i).Id) i (gt h.1 (h.1.length - 1)), true) := by
    unfold dropF; rw [hm]; rfl
  have kd : ∀ k, k ∈ (mdel h.2 (gt h.1 i).Id).map (·.1) → ∃ j, j < h.1.length ∧ j ≠ i ∧ (gt h.1 j).Id = k := fun k hk => by
    obtain ⟨h1, h2⟩ := (mem_del_keys H.at_.once).1 hk
    obtain ⟨j, h3, h4⟩ := H.at_.key k h2
    exact ⟨j, h3, fun e => h1 (by rw [← h4, e]), h4⟩
  by_cases hl : h.1.length - 1 = i
  · rw [e, if_pos (by rw [hl])]
    refine ⟨⟨fun j hj0 hj => ?_, ⟨once_del H.at_.once _, fun j hj => ?_, fun k hk => ?_⟩⟩, rfl, by simp only [hlt]; omega, fun y => ?_⟩
    · simp only [hlt] at hj ⊢
      rw [gtk _ (by omega), gtk _ hj]; exact H.ok j hj0 (by omega)
    · simp only [hlt] at hj ⊢
      rw [gtk _ hj, mget_del H.at_.once, if_neg (fun e => by have := inj (by omega) hi e; omega)]
      exact H.at_.at_ j (by omega)
    · obtain ⟨j, h1, h2, h3⟩ := kd k hk
      exact ⟨j, by simp only [hlt]; omega, by rw [gtk _ (by omega)]; exact h3⟩
    · simp only [Mem, hlt]
      constructor
      · rintro ⟨j, h1, h2⟩
        rw [gtk _ h1] at h2
        exact ⟨⟨j, by omega, h2⟩, fun e2 => by have := inj (a := j) (b := i) (by omega) hi (by rw [h2, e2]); omega⟩
      · rintro ⟨⟨j, h1, h2⟩, h3⟩
        have : j ≠ i := fun e => h3 (by rw [← h2, e])
        exact ⟨j, by omega, by rw [gtk _ (by omega)]; exact h2⟩
  · have hne : ¬ (gt h.1 (h.1.length - 1)).Id = (gt h.1 i).Id := fun e => by have := inj (by omega) hi e; omega
    rw [e, if_neg hne]
    have hi' : i < (h.1.take (h.1.length - 1)).length := by rw [hlt]; omega
    generalize hla : gt h.1 (h.1.length - 1) = x at *
    have ev : ∀ j, j < h.1.length - 1 → gt ((h.1.take (h.1.length - 1)).set i x) j = if j = i then x else gt h.1 j := fun j hj => by
      rw [gt_set _ _ _ _ hi']
      by_cases hji : j = i
      · rw [if_pos hji, if_pos hji]
      · rw [if_neg hji, if_neg hji, gtk _ hj]
    have r : Res (fixF (h.1.take (h.1.length - 1), mdel h.2 (gt h.1 i).Id) i x) ((h.1.take (h.1.length - 1)).set i x) := fix_ok (h.1.take (h.1.length - 1), mdel h.2 (gt h.1 i).Id) i x hi' ⟨once_del H.at_.once _, fun j hj hji => by
        simp only [hlt] at hj ⊢
        rw [gtk _ hj, mget_del H.at_.once, if_neg (fun e => by have := inj (by omega) hi e; omega)]
        exact H.at_.at_ j (by omega), fun k hk => by
        obtain ⟨j, h1, h2, h3⟩ := kd k hk
        by_cases hjl : j = h.1.length - 1
        · left; rw [← h3, hjl, hla]
        · exact .inr ⟨j, by simp only [hlt]; omega, h2, by rw [gtk _ (by omega)]; exact h3⟩, fun j hj hji => by
        simp only [hlt] at hj ⊢
        rw [gtk _ hj, ← hla]
        intro e
        have := inj (a := j) (b := h.1.length - 1) (by omega) (by omega) e
        omega⟩ (fun j hj0 hj h1 h2 => by
        simp only [List.length_set, hlt] at hj
        rw [ev _ (by omega), ev _ hj, if_neg h2, if_neg h1]
        exact H.ok j hj0 (by omega)) (fun j hj0 hj h1 h2 => by
        simp only [List.length_set, hlt] at hj
        rw [ev _ (by omega), ev _ hj, if_neg (by omega), if_neg (by omega)]
        have k1 := H.ok i h2 (by omega)
        have k2 := H.ok j hj0 (by omega)
        rw [h1] at k2
        exact le_trans' k1 k2)
    refine ⟨⟨r.ok, r.at_⟩, rfl, by rw [r.len]; simp; omega, fun y => (r.mem y).trans ?_⟩
    simp only [Mem, List.length_set, hlt]
    constructor
    · rintro ⟨j, h1, h2⟩
      rw [ev _ h1] at h2
      by_cases hji : j = i
      · rw [if_pos hji] at h2
        exact ⟨⟨h.1.length - 1, by omega, by rw [hla]; exact h2⟩, fun e2 => hne (by rw [h2, e2])⟩
      · rw [if_neg hji] at h2
        exact ⟨⟨j, by omega, h2⟩, fun e2 => by have := inj (a := j) (b := i) (by omega) hi (by rw [h2, e2]); omega⟩
    · rintro ⟨⟨j, h1, h2⟩, h3⟩
      have hji : j ≠ i := fun e => h3 (by rw [← h2, e])
      by_cases hjl : j = h.1.length - 1
      · exact ⟨i, by omega, by rw [ev _ (by omega), if_pos rfl, ← hla, ← hjl]; exact h2⟩
      · exact ⟨j, by omega, by rw [ev _ (by omega), if_neg hji]; exact h2⟩
/-- The thing that is ahead of all is taken. -/
theorem pop_ok (h : HpS) (H : HpOk h) (hne : h.1 ≠ []) : HpOk (popF h).1 ∧ (popF h).2 = ((gt h.1 0).Id, true) ∧ (popF h).1.1.length + 1 = h.1.length ∧ Mem h.1 (gt h.1 0) ∧ (∀ y, Mem h.1 y → le' (gt h.1 0) y) ∧ ∀ y, Mem (popF h).1.1 y ↔ Mem h.1 y ∧ y ≠ gt h.1 0 := by
  have hl : 0 < h.1.length := List.length_pos_iff.2 hne
  have hf : firstF h = ((gt h.1 0).Id, true) := by unfold firstF; rw [if_neg (by omega)]; rfl
  have d := drop_ok h H 0 hl
  have e : popF h = ((dropF h (gt h.1 0).Id).1, ((gt h.1 0).Id, true)) := by unfold popF; rw [hf]; rfl
  rw [e]
  exact ⟨d.1, rfl, d.2.2.1, ⟨0, hl, rfl⟩, fun y ⟨j, h1, h2⟩ => by rw [← h2]; exact root_le H.ok j h1, d.2.2.2⟩
theorem pop_nil (h : HpS) (hn : h.1 = []) : popF h = (h, (0, false)) := by
  unfold popF firstF; simp [hn]

end Hp
open Hp (mget mput mdel HpS)

/-! maps of numbers -/
def ie (e : Int × Int) : Int × AV := (e.1, .int .i64 e.2)
def ei (e : Int × AV) : Int × Int := (e.1, numOf e.2)
@[simp] theorem ei_ie (m : List (Int × Int)) : (m.map ie).map ei = m := by
  induction m with
  | nil => rfl
  | cons x m ih => simp only [List.map_cons, ih]; rfl
@[simp] theorem ei_ie' (m : List (Int × Int)) : m.map (ei ∘ ie) = m := by rw [← List.map_map]; exact ei_ie m
@[simp] theorem alook_ie (m : List (Int × Int)) (k : Int) : alook (m.map ie) k = (mget m k).map (AV.int .i64) := by
  induction m with
  | nil => rfl
  | cons x m ih =>
    simp only [alook, mget, List.map_cons, List.find?_cons] at ih ⊢
    simp only [ie]
    split
    · rfl
    · exact ih
@[simp] theorem aput_ie (m : List (Int × Int)) (k v : Int) : aput (m.map ie) k (.int .i64 v) = (mput m k v).map ie := by
  induction m with
  | nil => rfl
  | cons x m ih =>
    simp only [List.map_cons, aput, mput]
    have : (ie x).1 = x.1 := rfl
    rw [this]
    split
    · rfl
    · rw [ih]; rfl
@[simp] theorem adel_ie (m : List (Int × Int)) (k : Int) : adel (m.map ie) k = (mdel m k).map ie := by
  induction m with
  | nil => rfl
  | cons x m ih =>
    simp only [List.map_cons, adel, mdel]
    have : (ie x).1 = x.1 := rfl
    rw [this]
    split
    · rfl
    · rw [ih]; rfl
def allI : List (Int × AV) → Prop
  | [] => True
  | e :: es => e.2 = .int .i64 (numOf e.2) ∧ allI es
@[simp] theorem allI_ie (m : List (Int × Int)) : allI (m.map ie) = True := by
  induction m with
  | nil => rfl
  | cons x m ih => simp only [List.map_cons, allI, ih, and_true]; exact eq_true rfl
theorem allI_eq : ∀ {m : List (Int × AV)}, allI m → m = (m.map ei).map ie
  | [], _ => rfl
  | e :: m, h => by
    obtain ⟨h1, h2⟩ := h
    simp only [List.map_cons]
    rw [← allI_eq h2]
    congr 1
    obtain ⟨a, b⟩ := e
    simp only [ie, ei] at h1 ⊢
    rw [← h1]

/-! the objects -/
def hpH : Nat → HpS → List AObj
  | 0, h => [.rows 2 [[.nils, .map 1]], .imap (h.2.map ie)]
  | _ + 1, h => [.rows 2 [[.sl 1 0 h.1.length, .map 2]], .rows 3 (h.1.map Cel.c), .imap (h.2.map ie)]
def slF : AV → Nat
  | .sl .. => 1
  | _ => 0
def slQ : AV → Nat
  | .sl q _ _ => q
  | _ => 0
def mapId : AV → Nat
  | .map r => r
  | _ => 0
@[simp] theorem slF_sl (q r n : Nat) : slF (.sl q r n) = 1 := rfl
@[simp] theorem slF_nils : slF .nils = 0 := rfl
@[simp] theorem slQ_sl (q r n : Nat) : slQ (.sl q r n) = q := rfl
@[simp] theorem mapId_map (q : Nat) : mapId (.map q) = q := rfl
def hpA (H : List AObj) (p : Nat) : AV := nth (nth (rowsOf H p) 0 []) 0 .any
def hpR (H : List AObj) (p : Nat) : Nat := mapId (nth (nth (rowsOf H p) 0 []) 1 .any)
def hslP (H : List AObj) : AV → Prop
  | .nils => True
  | .sl q r n => r = 0 ∧ isRows H q ∧ szOf H q = 3 ∧ n ≤ (rowsOf H q).length ∧ ∀ row ∈ (rowsOf H q).take n, Cel.ok (α := Thg) [] row
  | _ => False
def hslV (H : List AObj) : AV → List Thg
  | .sl q r n => ((rowsOf H q).take n).map (Cel.u [])
  | _ => []
@[simp] theorem hslP_nils (H : List AObj) : hslP H .nils = True := rfl
@[simp] theorem hslP_sl (H : List AObj) (q r n : Nat) : hslP H (.sl q r n) = (r = 0 ∧ isRows H q ∧ szOf H q = 3 ∧ n ≤ (rowsOf H q).length ∧ ∀ row ∈ (rowsOf H q).take n, Cel.ok (α := Thg) [] row) := rfl
@[simp] theorem hslV_nils (H : List AObj) : hslV H .nils = [] := rfl
@[simp] theorem hslV_sl (H : List AObj) (q r n : Nat) : hslV H (.sl q r n) = ((rowsOf H q).take n).map (Cel.u []) := rfl
def hpP (H : List AObj) : AV → Prop
  | .ptr p r o => (r = 0 ∧ o = 0) ∧ isRows H p ∧ rowsOf H p = [[hpA H p, .map (hpR H p)]] ∧ szOf H p = 2 ∧ isMap H (hpR H p) ∧ allI (mapOf H (hpR H p)) ∧ hslP H (hpA H p)
  | _ => False
def hpV (H : List AObj) : AV → HpS
  | .ptr p r o => (hslV H (hpA H p), (mapOf H (hpR H p)).map ei)
  | _ => ([], [])
def hpF (H : List AObj) : AV → Nat
  | .ptr p _ _ => slF (hpA H p)
  | _ => 0
/-- What becomes of memory: in place. -/
def hpW (H : List AObj) (y : HpS) : AV → List AObj
  | .ptr p _ _ => match hpA H p with
    | .sl q _ _ => ((H.set p (.rows 2 [[.sl q 0 y.1.length, .map (hpR H p)]])).set q (.rows 3 (y.1.map Cel.c))).set (hpR H p) (.imap (y.2.map ie))
    | _ => H.set (hpR H p) (.imap (y.2.map ie))
  | _ => H
/-- .. and where the things come to a new place. -/
def hpN (H : List AObj) (y : HpS) : AV → List AObj
  | .ptr p _ _ => match hpA H p with
    | .sl q _ _ => ((H.set p (.rows 2 [[.sl H.length 0 y.1.length, .map (hpR H p)]])).set q .dead).set (hpR H p) (.imap (y.2.map ie)) ++ [.rows 3 (y.1.map Cel.c)]
    | _ => (H.set p (.rows 2 [[.sl H.length 0 y.1.length, .map (hpR H p)]])).set (hpR H p) (.imap (y.2.map ie)) ++ [.rows 3 (y.1.map Cel.c)]
  | _ => H
@[simp] theorem hpP_ptr (H : List AObj) (p r o : Nat) : hpP H (.ptr p r o) = ((r = 0 ∧ o = 0) ∧ isRows H p ∧ rowsOf H p = [[hpA H p, .map (hpR H p)]] ∧ szOf H p = 2 ∧ isMap H (hpR H p) ∧ allI (mapOf H (hpR H p)) ∧ hslP H (hpA H p)) := rfl
@[simp] theorem hpV_ptr (H : List AObj) (p r o : Nat) : hpV H (.ptr p r o) = (hslV H (hpA H p), (mapOf H (hpR H p)).map ei) := rfl
@[simp] theorem hpF_ptr (H : List AObj) (p r o : Nat) : hpF H (.ptr p r o) = slF (hpA H p) := rfl
def hpW1 (H : List AObj) (y : HpS) (p m : Nat) : AV → List AObj
  | .sl q _ _ => ((H.set p (.rows 2 [[.sl q 0 y.1.length, .map m]])).set q (.rows 3 (y.1.map Cel.c))).set m (.imap (y.2.map ie))
  | _ => H.set m (.imap (y.2.map ie))
def hpN1 (H : List AObj) (y : HpS) (p m : Nat) : AV → List AObj
  | .sl q _ _ => ((H.set p (.rows 2 [[.sl H.length 0 y.1.length, .map m]])).set q .dead).set m (.imap (y.2.map ie)) ++ [.rows 3 (y.1.map Cel.c)]
  | _ => (H.set p (.rows 2 [[.sl H.length 0 y.1.length, .map m]])).set m (.imap (y.2.map ie)) ++ [.rows 3 (y.1.map Cel.c)]
@[simp] theorem hpW_ptr (H : List AObj) (y : HpS) (p r o : Nat) : hpW H y (.ptr p r o) = hpW1 H y p (hpR H p) (hpA H p) := by
  simp only [hpW, hpW1]
@[simp] theorem hpN_ptr (H : List AObj) (y : HpS) (p r o : Nat) : hpN H y (.ptr p r o) = hpN1 H y p (hpR H p) (hpA H p) := by
  simp only [hpN, hpN1]
@[simp] theorem hpW1_sl (H : List AObj) (y : HpS) (p m q r n : Nat) : hpW1 H y p m (.sl q r n) = ((H.set p (.rows 2 [[.sl q 0 y.1.length, .map m]])).set q (.rows 3 (y.1.map Cel.c))).set m (.imap (y.2.map ie)) := rfl
@[simp] theorem hpW1_nils (H : List AObj) (y : HpS) (p m : Nat) : hpW1 H y p m .nils = H.set m (.imap (y.2.map ie)) := rfl
@[simp] theorem hpN1_sl (H : List AObj) (y : HpS) (p m q r n : Nat) : hpN1 H y p m (.sl q r n) = ((H.set p (.rows 2 [[.sl H.length 0 y.1.length, .map m]])).set q .dead).set m (.imap (y.2.map ie)) ++ [.rows 3 (y.1.map Cel.c)] := rfl
@[simp] theorem hpN1_nils (H : List AObj) (y : HpS) (p m : Nat) : hpN1 H y p m .nils = (H.set p (.rows 2 [[.sl H.length 0 y.1.length, .map m]])).set m (.imap (y.2.map ie)) ++ [.rows 3 (y.1.map Cel.c)] := rfl
/-- The small heap behind a method that lays things anew. -/
def hpH' : Nat → HpS → List AObj
  | 0, h => [.rows 2 [[.sl 2 0 h.1.length, .map 1]], .imap (h.2.map ie), .rows 3 (h.1.map Cel.c)]
  | _ + 1, h => [.rows 2 [[.sl 3 0 h.1.length, .map 2]], .dead, .imap (h.2.map ie), .rows 3 (h.1.map Cel.c)]

/-! what is said of parts of a heap -/
theorem seenO_ie {H : List AObj} {R : Nat → Nat → Prop} (m : List (Int × Int)) : SeenO H R (.imap (m.map ie)) (.imap (m.map ie)) := .imap rfl fun i a b h1 h2 => by
  rw [h1] at h2; cases h2
  have := List.mem_of_getElem? h1
  simp only [List.mem_map] at this
  obtain ⟨x, _, rfl⟩ := this
  exact ⟨rfl, .int _ _⟩
theorem seenO_cc {H : List AObj} {R : Nat → Nat → Prop} {α : Type} [Cel α] {sz : Nat} (l : List α) : SeenO H R (.rows sz (l.map Cel.c)) (.rows sz (l.map Cel.c)) := .rows rfl (fun i r r' h1 h2 => by rw [h1] at h2; cases h2; rfl) fun i r r' j a b h1 h2 h3 h4 => by
  rw [h1] at h2; cases h2
  rw [h3] at h4; cases h4
  have := List.mem_of_getElem? h1
  simp only [List.mem_map] at this
  obtain ⟨x, _, rfl⟩ := this
  exact Closed.seen (Cel.closed x a (List.mem_of_getElem? h3)) _ _
theorem seenO_cutc {R : Nat → Nat → Prop} {sz n : Nat} {rs : List (List AV)} (h : ∀ row ∈ rs.take n, Cel.ok (α := Thg) [] row) : SeenO [] R (.rows sz rs) (.rows sz (((rs.take n).map (Cel.u (α := Thg) [])).map Cel.c)) := .cut n (by simp) (fun i r r' h1 h2 => by
    simp only [List.getElem?_map, h1, Option.map_some, Option.some.injEq] at h2
    subst h2
    exact (Cel.seen (α := Thg) [] r (h r (List.mem_of_getElem? h1))).1) fun i r r' j a b h1 h2 h3 h4 => by
  simp only [List.getElem?_map, h1, Option.map_some, Option.some.injEq] at h2
  subst h2
  exact ((Cel.seen (α := Thg) [] r (h r (List.mem_of_getElem? h1))).2 j a b h3 h4).mono (fun _ _ h => h.elim) (.inl rfl)
theorem seenO_row2 {R : Nat → Nat → Prop} {a b a' b' : AV} (h1 : Seen [] R a a') (h2 : Seen [] R b b') : SeenO [] R (.rows 2 [[a, b]]) (.rows 2 [[a', b']]) := .rows rfl (fun i r r' h1 h2 => by
  match i with
  | 0 => simp at h1 h2; subst h1; subst h2; rfl
  | i + 1 => simp at h1) fun i r r' j x y h3 h4 h5 h6 => by
  match i with
  | 0 =>
    simp at h3 h4; subst h3; subst h4
    match j with
    | 0 => simp at h5 h6; subst h5; subst h6; exact h1
    | 1 => simp at h5 h6; subst h5; subst h6; exact h2
    | j + 2 => simp at h5
  | i + 1 => simp at h3

theorem byG_mk {g : List Nat} {i j : Nat} (h : g[j]? = some i) : byG g i j := h
theorem hp_parts {H : List AObj} {p : Nat} (hp : hpP H (.ptr p 0 0)) : H[p]? = some (.rows 2 [[hpA H p, .map (hpR H p)]]) ∧ H[hpR H p]? = some (.imap (((mapOf H (hpR H p)).map ei).map ie)) ∧ p ≠ hpR H p ∧ p < H.length ∧ hpR H p < H.length := by
  obtain ⟨_, h1, h2, h3, h4, h5, h6⟩ := hp
  obtain ⟨sz, rs, e, e1, e2⟩ := isRows_some h1
  obtain ⟨es, k, k1⟩ := isMap_some h4
  rw [← allI_eq h5, k1]
  have e' : H[p]? = some (.rows 2 [[hpA H p, .map (hpR H p)]]) := by rw [e, ← e1, h2, ← e2, h3]
  refine ⟨e', k, fun he => ?_, (List.getElem?_eq_some_iff.1 e).1, (List.getElem?_eq_some_iff.1 k).1⟩
  rw [← he] at k
  rw [e'] at k
  cases k
theorem get3 {a b c : Nat} {j i : Nat} (h : [a, b, c][j]? = some i) : (j = 0 ∧ i = a) ∨ (j = 1 ∧ i = b) ∨ (j = 2 ∧ i = c) := by
  match j with
  | 0 => simp at h; exact .inl ⟨rfl, h.symm⟩
  | 1 => simp at h; exact .inr (.inl ⟨rfl, h.symm⟩)
  | 2 => simp at h; exact .inr (.inr ⟨rfl, h.symm⟩)
  | j + 3 => simp at h
theorem get2 {a b : Nat} {j i : Nat} (h : [a, b][j]? = some i) : (j = 0 ∧ i = a) ∨ (j = 1 ∧ i = b) := by
  match j with
  | 0 => simp at h; exact .inl ⟨rfl, h.symm⟩
  | 1 => simp at h; exact .inr ⟨rfl, h.symm⟩
  | j + 2 => simp at h
theorem get4 {a b c d : Nat} {j i : Nat} (h : [a, b, c, d][j]? = some i) : (j = 0 ∧ i = a) ∨ (j = 1 ∧ i = b) ∨ (j = 2 ∧ i = c) ∨ (j = 3 ∧ i = d) := by
  match j with
  | 0 => simp at h; exact .inl ⟨rfl, h.symm⟩
  | 1 => simp at h; exact .inr (.inl ⟨rfl, h.symm⟩)
  | 2 => simp at h; exact .inr (.inr (.inl ⟨rfl, h.symm⟩))
  | 3 => simp at h; exact .inr (.inr (.inr ⟨rfl, h.symm⟩))
  | j + 4 => simp at h
theorem Det.hpW {P : Program} {f : FuncId} {args args0 : List AV} {x : AV} {H : List AObj} {a : AV} {y : HpS} (hp : hpP H a) (hd : Det P f (.ptr 0 0 0 :: args0) (hpH (hpF H a) (hpV H a)) x (hpH (hpF H a) y)) (ha : Each (Seen [] (fun _ _ => False)) args args0) (hx : Closed x) : Det P f (a :: args) H x (Sx.hpW H y a) := by
  match a, hp with
  | .ptr p r o, hp =>
  obtain ⟨rfl, rfl⟩ := hp.1
  obtain ⟨e1, e2, hne, l1, l2⟩ := hp_parts hp
  have hs := hp.2.2.2.2.2.2
  simp only [hpV_ptr, hpF_ptr, hpW_ptr] at hd ⊢
  generalize hA : hpA H p = A at *
  generalize hR : hpR H p = R at *
  cases A <;> first | exact hs.elim | skip
  · simp only [slF_nils, hslV_nils, hpH, hpW1_nils] at hd ⊢
    have nm : names [p, R] H.length 0 = [p, R] := by simp [names]
    refine hd.frame (ids := [p, R]) (H := H) ⟨rfl, fun i j k hi hj => ?_, fun j i h => ?_, fun j i o' hj ho _ => ?_, by simp, by simp, fun j i o' hj ho _ => ?_, fun i hi hn => ?_⟩ (each_cons (.ptr rfl) ⟨ha.1, fun i a b h1 h2 => (ha.2 i a b h1 h2).mono (fun _ _ h => h.elim) (.inl rfl)⟩) (hx.seen _ _)
    · rcases get2 hi with ⟨rfl, rfl⟩ | ⟨rfl, rfl⟩ <;> rcases get2 hj with ⟨rfl, h⟩ | ⟨rfl, h⟩ <;> first | rfl | (exact absurd h hne) | (exact absurd h.symm hne)
    · rcases get2 h with ⟨rfl, rfl⟩ | ⟨rfl, rfl⟩ <;> assumption
    · rcases get2 hj with ⟨rfl, rfl⟩ | ⟨rfl, rfl⟩
      · simp at ho; subst ho; exact ⟨_, e1, seenO_row2 .nils (.map (byG_mk rfl))⟩
      · simp only [List.getElem?_cons_succ, List.getElem?_cons_zero, Option.some.injEq] at ho; subst ho; exact ⟨_, e2, seenO_ie _⟩
    · simp only [List.length_cons, List.length_nil, Nat.sub_self, nm] at hj ⊢
      rcases get2 hj with ⟨rfl, rfl⟩ | ⟨rfl, rfl⟩
      · rw [List.getElem?_set_ne (fun e => hne e.symm), e1] at ho
        cases ho
        exact ⟨_, rfl, seenO_row2 .nils (.map rfl)⟩
      · rw [List.getElem?_set_self l2] at ho
        cases ho
        exact ⟨_, rfl, seenO_ie _⟩
    · have h2 : i ≠ R := fun e => hn 1 (by simp [e])
      rw [List.getElem?_set_ne (fun e => h2 e.symm)]
  · rename_i q r n
    obtain ⟨rfl, k1, k2, k3, k4⟩ := hs
    obtain ⟨sz, rs, k, k5, k6⟩ := isRows_some k1
    rw [k6] at k2
    subst k2
    rw [k5] at k3 k4
    have l3 : q < H.length := (List.getElem?_eq_some_iff.1 k).1
    have n1 : p ≠ q := fun e => by rw [e, k] at e1; simp at e1
    have n2 : q ≠ R := fun e => by rw [← e, k] at e2; cases e2
    simp only [slF_sl, hslV_sl, hpH, hpW1_sl, k5] at hd ⊢
    have hn' : min n rs.length = n := Nat.min_eq_left k3
    simp only [List.length_map, List.length_take, hn'] at hd
    have nm : names [p, q, R] H.length 0 = [p, q, R] := by simp [names]
    refine hd.frame (ids := [p, q, R]) (H := H) ⟨rfl, fun i j k hi hj => ?_, fun j i h => ?_, fun j i o' hj ho _ => ?_, by simp, by simp, fun j i o' hj ho _ => ?_, fun i hi hn => ?_⟩ (each_cons (.ptr rfl) ⟨ha.1, fun i a b h1 h2 => (ha.2 i a b h1 h2).mono (fun _ _ h => h.elim) (.inl rfl)⟩) (hx.seen _ _)
    · rcases get3 hi with ⟨rfl, rfl⟩ | ⟨rfl, rfl⟩ | ⟨rfl, rfl⟩ <;> rcases get3 hj with ⟨rfl, h⟩ | ⟨rfl, h⟩ | ⟨rfl, h⟩ <;> first | rfl | omega
    · rcases get3 h with ⟨rfl, rfl⟩ | ⟨rfl, rfl⟩ | ⟨rfl, rfl⟩ <;> assumption
    · rcases get3 hj with ⟨rfl, rfl⟩ | ⟨rfl, rfl⟩ | ⟨rfl, rfl⟩
      · simp at ho; subst ho; exact ⟨_, e1, seenO_row2 (.sl (byG_mk rfl)) (.map (byG_mk rfl))⟩
      · simp at ho; subst ho; refine ⟨_, k, ?_⟩
        have := seenO_cutc (R := byG [p, i, R]) (sz := 3) k4
        simpa using this
      · simp only [List.getElem?_cons_succ, List.getElem?_cons_zero, Option.some.injEq] at ho; subst ho; exact ⟨_, e2, seenO_ie _⟩
    · simp only [List.length_cons, List.length_nil, Nat.sub_self, nm] at hj ⊢
      rcases get3 hj with ⟨rfl, rfl⟩ | ⟨rfl, rfl⟩ | ⟨rfl, rfl⟩
      · rw [List.getElem?_set_ne (fun e => hne e.symm), List.getElem?_set_ne (fun e => n1 e.symm), List.getElem?_set_self l1] at ho
        cases ho
        exact ⟨_, rfl, seenO_row2 (.sl rfl) (.map rfl)⟩
      · rw [List.getElem?_set_ne (fun e => n2 e.symm), List.getElem?_set_self (by simpa using l3)] at ho
        cases ho
        exact ⟨_, rfl, seenO_cc _⟩
      · rw [List.getElem?_set_self (by simpa using l2)] at ho
        cases ho
        exact ⟨_, rfl, seenO_ie _⟩
    · have h1 : i ≠ p := fun e => hn 0 (by simp [e])
      have h2 : i ≠ q := fun e => hn 1 (by simp [e])
      have h3 : i ≠ R := fun e => hn 2 (by simp [e])
      rw [List.getElem?_set_ne (fun e => h3 e.symm), List.getElem?_set_ne (fun e => h2 e.symm), List.getElem?_set_ne (fun e => h1 e.symm)]
theorem Det.hpN {P : Program} {f : FuncId} {args args0 : List AV} {x : AV} {H : List AObj} {a : AV} {y : HpS} (hp : hpP H a) (hd : Det P f (.ptr 0 0 0 :: args0) (hpH (hpF H a) (hpV H a)) x (hpH' (hpF H a) y)) (ha : Each (Seen [] (fun _ _ => False)) args args0) (hx : Closed x) : Det P f (a :: args) H x (Sx.hpN H y a) := by
  match a, hp with
  | .ptr p r o, hp =>
  obtain ⟨rfl, rfl⟩ := hp.1
  obtain ⟨e1, e2, hne, l1, l2⟩ := hp_parts hp
  have hs := hp.2.2.2.2.2.2
  simp only [hpV_ptr, hpF_ptr, hpN_ptr] at hd ⊢
  generalize hA : hpA H p = A at *
  generalize hR : hpR H p = R at *
  cases A <;> first | exact hs.elim | skip
  · simp only [slF_nils, hslV_nils, hpH, hpH', hpN1_nils] at hd ⊢
    have nm : names [p, R] H.length 1 = [p, R, H.length] := by simp [names]
    refine hd.frame (ids := [p, R]) (H := H) ⟨rfl, fun i j k hi hj => ?_, fun j i h => ?_, fun j i o' hj ho _ => ?_, by simp, by simp, fun j i o' hj ho _ => ?_, fun i hi hn => ?_⟩ (each_cons (.ptr rfl) ⟨ha.1, fun i a b h1 h2 => (ha.2 i a b h1 h2).mono (fun _ _ h => h.elim) (.inl rfl)⟩) (hx.seen _ _)
    · rcases get2 hi with ⟨rfl, rfl⟩ | ⟨rfl, rfl⟩ <;> rcases get2 hj with ⟨rfl, h⟩ | ⟨rfl, h⟩ <;> first | rfl | (exact absurd h hne) | (exact absurd h.symm hne)
    · rcases get2 h with ⟨rfl, rfl⟩ | ⟨rfl, rfl⟩ <;> assumption
    · rcases get2 hj with ⟨rfl, rfl⟩ | ⟨rfl, rfl⟩
      · simp at ho; subst ho; exact ⟨_, e1, seenO_row2 .nils (.map (byG_mk rfl))⟩
      · simp only [List.getElem?_cons_succ, List.getElem?_cons_zero, Option.some.injEq] at ho; subst ho; exact ⟨_, e2, seenO_ie _⟩
    · have hs1 : [AObj.rows 2 [[.sl 2 0 y.1.length, .map 1]], .imap (y.2.map ie), .rows 3 (y.1.map Cel.c)].length - [p, R].length = 1 := rfl
      simp only [hs1, nm] at hj ⊢
      rcases get3 hj with ⟨rfl, rfl⟩ | ⟨rfl, rfl⟩ | ⟨rfl, rfl⟩
      · rw [List.getElem?_append_left (by simpa using l1), List.getElem?_set_ne (fun e => hne e.symm), List.getElem?_set_self l1] at ho
        cases ho
        exact ⟨_, rfl, seenO_row2 (.sl rfl) (.map rfl)⟩
      · rw [List.getElem?_append_left (by simpa using l2), List.getElem?_set_self (by simpa using l2)] at ho
        cases ho
        exact ⟨_, rfl, seenO_ie _⟩
      · rw [List.getElem?_append_right (by simp)] at ho
        simp at ho
        subst ho
        exact ⟨_, rfl, seenO_cc _⟩
    · have h1 : i ≠ p := fun e => hn 0 (by simp [e])
      have h2 : i ≠ R := fun e => hn 1 (by simp [e])
      rw [List.getElem?_append_left (by simpa using hi), List.getElem?_set_ne (fun e => h2 e.symm), List.getElem?_set_ne (fun e => h1 e.symm)]
  · rename_i q r n
    obtain ⟨rfl, k1, k2, k3, k4⟩ := hs
    obtain ⟨sz, rs, k, k5, k6⟩ := isRows_some k1
    rw [k6] at k2
    subst k2
    rw [k5] at k3 k4
    have l3 : q < H.length := (List.getElem?_eq_some_iff.1 k).1
    have n1 : p ≠ q := fun e => by rw [e, k] at e1; simp at e1
    have n2 : q ≠ R := fun e => by rw [← e, k] at e2; cases e2
    simp only [slF_sl, hslV_sl, hpH, hpH', hpN1_sl, k5] at hd ⊢
    have hn' : min n rs.length = n := Nat.min_eq_left k3
    simp only [List.length_map, List.length_take, hn'] at hd
    have nm : names [p, q, R] H.length 1 = [p, q, R, H.length] := by simp [names]
    refine hd.frame (ids := [p, q, R]) (H := H) ⟨rfl, fun i j k hi hj => ?_, fun j i h => ?_, fun j i o' hj ho _ => ?_, by simp, by simp, fun j i o' hj ho hd' => ?_, fun i hi hn => ?_⟩ (each_cons (.ptr rfl) ⟨ha.1, fun i a b h1 h2 => (ha.2 i a b h1 h2).mono (fun _ _ h => h.elim) (.inl rfl)⟩) (hx.seen _ _)
    · rcases get3 hi with ⟨rfl, rfl⟩ | ⟨rfl, rfl⟩ | ⟨rfl, rfl⟩ <;> rcases get3 hj with ⟨rfl, h⟩ | ⟨rfl, h⟩ | ⟨rfl, h⟩ <;> first | rfl | omega
    · rcases get3 h with ⟨rfl, rfl⟩ | ⟨rfl, rfl⟩ | ⟨rfl, rfl⟩ <;> assumption
    · rcases get3 hj with ⟨rfl, rfl⟩ | ⟨rfl, rfl⟩ | ⟨rfl, rfl⟩
      · simp at ho; subst ho; exact ⟨_, e1, seenO_row2 (.sl (byG_mk rfl)) (.map (byG_mk rfl))⟩
      · simp at ho; subst ho; refine ⟨_, k, ?_⟩
        have := seenO_cutc (R := byG [p, i, R]) (sz := 3) k4
        simpa using this
      · simp only [List.getElem?_cons_succ, List.getElem?_cons_zero, Option.some.injEq] at ho; subst ho; exact ⟨_, e2, seenO_ie _⟩
    · have hs1 : [AObj.rows 2 [[.sl 3 0 y.1.length, .map 2]], .dead, .imap (y.2.map ie), .rows 3 (y.1.map Cel.c)].length - [p, q, R].length = 1 := rfl
      simp only [hs1, nm] at hj ⊢
      rcases get4 hj with ⟨rfl, rfl⟩ | ⟨rfl, rfl⟩ | ⟨rfl, rfl⟩ | ⟨rfl, rfl⟩
      · rw [List.getElem?_append_left (by simpa using l1), List.getElem?_set_ne (fun e => hne e.symm), List.getElem?_set_ne (fun e => n1 e.symm), List.getElem?_set_self l1] at ho
        cases ho
        exact ⟨_, rfl, seenO_row2 (.sl rfl) (.map rfl)⟩
      · rw [List.getElem?_append_left (by simpa using l3), List.getElem?_set_ne (fun e => n2 e.symm), List.getElem?_set_self (by simpa using l3)] at ho
        cases ho
        exact absurd rfl hd'
      · rw [List.getElem?_append_left (by simpa using l2), List.getElem?_set_self (by simpa using l2)] at ho
        cases ho
        exact ⟨_, rfl, seenO_ie _⟩
      · rw [List.getElem?_append_right (by simp)] at ho
        simp at ho
        subst ho
        exact ⟨_, rfl, seenO_cc _⟩
    · have h1 : i ≠ p := fun e => hn 0 (by simp [e])
      have h2 : i ≠ q := fun e => hn 1 (by simp [e])
      have h3 : i ≠ R := fun e => hn 2 (by simp [e])
      rw [List.getElem?_append_left (by simpa using hi), List.getElem?_set_ne (fun e => h3 e.symm), List.getElem?_set_ne (fun e => h2 e.symm), List.getElem?_set_ne (fun e => h1 e.symm)]

/-! the methods' contracts -/
def HW0 (pre : Nat → HpS → Prop) (S : HpS → HpS) (F : HpS → AV) : Ctr := ⟨fun a H => match a with
  | [a] => hpP H a ∧ pre (hpF H a) (hpV H a)
  | _ => False, fun a H => match a with
  | [a] => F (hpV H a)
  | _ => .any, fun a H => match a with
  | [a] => hpW H (S (hpV H a)) a
  | _ => H⟩
section
variable (pre : Nat → HpS → Prop) (S : HpS → HpS) (F : HpS → AV)
@[simp] theorem HW0_pre (a : AV) (H : List AObj) : (HW0 pre S F).pre [a] H = (hpP H a ∧ pre (hpF H a) (hpV H a)) := rfl
@[simp] theorem HW0_val (a : AV) (H : List AObj) : (HW0 pre S F).val [a] H = F (hpV H a) := rfl
@[simp] theorem HW0_hp (a : AV) (H : List AObj) : (HW0 pre S F).hp [a] H = hpW H (S (hpV H a)) a := rfl
end
theorem known_HW0 {P : Program} {f : FuncId} {pre : Nat → HpS → Prop} {S : HpS → HpS} {F : HpS → AV} (h : ∀ k s, pre k s → Det P f [.ptr 0 0 0] (hpH k s) (F s) (hpH k (S s))) (hc : ∀ s, Closed (F s)) : Known P f (HW0 pre S F) := fun args H hp => by
  match args, hp with
  | [a], hp => exact Det.hpW hp.1 (h _ _ hp.2) each_nil (hc _)
def HW1 {α1 : Type} [Cel α1] (pre : Nat → HpS → α1 → Prop) (S : HpS → α1 → HpS) (F : HpS → α1 → AV) : Ctr := ⟨fun a H => match a with
  | [a, b] => (hpP H a ∧ okA α1 [] b) ∧ pre (hpF H a) (hpV H a) (de α1 [] b)
  | _ => False, fun a H => match a with
  | [a, b] => F (hpV H a) (de α1 [] b)
  | _ => .any, fun a H => match a with
  | [a, b] => hpW H (S (hpV H a) (de α1 [] b)) a
  | _ => H⟩
section
variable {α1 : Type} [Cel α1] (pre : Nat → HpS → α1 → Prop) (S : HpS → α1 → HpS) (F : HpS → α1 → AV)
@[simp] theorem HW1_pre (a b : AV) (H : List AObj) : (HW1 pre S F).pre [a, b] H = ((hpP H a ∧ okA α1 [] b) ∧ pre (hpF H a) (hpV H a) (de α1 [] b)) := rfl
@[simp] theorem HW1_val (a b : AV) (H : List AObj) : (HW1 pre S F).val [a, b] H = F (hpV H a) (de α1 [] b) := rfl
@[simp] theorem HW1_hp (a b : AV) (H : List AObj) : (HW1 pre S F).hp [a, b] H = hpW H (S (hpV H a) (de α1 [] b)) a := rfl
end
theorem known_HW1 {P : Program} {f : FuncId} {α1 : Type} [Cel α1] {pre : Nat → HpS → α1 → Prop} {S : HpS → α1 → HpS} {F : HpS → α1 → AV} (h : ∀ k s b, pre k s b → Det P f [.ptr 0 0 0, en b] (hpH k s) (F s b) (hpH k (S s b))) (hc : ∀ s b, Closed (F s b)) : Known P f (HW1 pre S F) := fun args H hp => by
  match args, hp with
  | [a, b], hp => exact Det.hpW hp.1.1 (h _ _ _ hp.2) (each_cons (okA_seen hp.1.2) each_nil) (hc _ _)
def HW2 {α1 α2 : Type} [Cel α1] [Cel α2] (pre : Nat → HpS → α1 → α2 → Prop) (S : HpS → α1 → α2 → HpS) (F : HpS → α1 → α2 → AV) : Ctr := ⟨fun a H => match a with
  | [a, b, c] => (hpP H a ∧ okA α1 [] b ∧ okA α2 [] c) ∧ pre (hpF H a) (hpV H a) (de α1 [] b) (de α2 [] c)
  | _ => False, fun a H => match a with
  | [a, b, c] => F (hpV H a) (de α1 [] b) (de α2 [] c)
  | _ => .any, fun a H => match a with
  | [a, b, c] => hpW H (S (hpV H a) (de α1 [] b) (de α2 [] c)) a
  | _ => H⟩
section
variable {α1 α2 : Type} [Cel α1] [Cel α2] (pre : Nat → HpS → α1 → α2 → Prop) (S : HpS → α1 → α2 → HpS) (F : HpS → α1 → α2 → AV)
@[simp] theorem HW2_pre (a b c : AV) (H : List AObj) : (HW2 pre S F).pre [a, b, c] H = ((hpP H a ∧ okA α1 [] b ∧ okA α2 [] c) ∧ pre (hpF H a) (hpV H a) (de α1 [] b) (de α2 [] c)) := rfl
@[simp] theorem HW2_val (a b c : AV) (H : List AObj) : (HW2 pre S F).val [a, b, c] H = F (hpV H a) (de α1 [] b) (de α2 [] c) := rfl
@[simp] theorem HW2_hp (a b c : AV) (H : List AObj) : (HW2 pre S F).hp [a, b, c] H = hpW H (S (hpV H a) (de α1 [] b) (de α2 [] c)) a := rfl
end
theorem known_HW2 {P : Program} {f : FuncId} {α1 α2 : Type} [Cel α1] [Cel α2] {pre : Nat → HpS → α1 → α2 → Prop} {S : HpS → α1 → α2 → HpS} {F : HpS → α1 → α2 → AV} (h : ∀ k s b c, pre k s b c → Det P f [.ptr 0 0 0, en b, en c] (hpH k s) (F s b c) (hpH k (S s b c))) (hc : ∀ s b c, Closed (F s b c)) : Known P f (HW2 pre S F) := fun args H hp => by
  match args, hp with
  | [a, b, c], hp => exact Det.hpW hp.1.1 (h _ _ _ _ hp.2) (each_cons (okA_seen hp.1.2.1) (each_cons (okA_seen hp.1.2.2) each_nil)) (hc _ _ _)
/-- A thing that is new is put in. -/
def HN3 (pre : Nat → HpS → Int → Int → Int → Prop) (S : HpS → Int → Int → Int → HpS) (F : HpS → Int → Int → Int → AV) : Ctr := ⟨fun a H => match a with
  | [a, b, c, d] => (hpP H a ∧ okA Int [] b ∧ okA Int [] c ∧ okA Int [] d) ∧ pre (hpF H a) (hpV H a) (de Int [] b) (de Int [] c) (de Int [] d)
  | _ => False, fun a H => match a with
  | [a, b, c, d] => F (hpV H a) (de Int [] b) (de Int [] c) (de Int [] d)
  | _ => .any, fun a H => match a with
  | [a, b, c, d] => hpN H (S (hpV H a) (de Int [] b) (de Int [] c) (de Int [] d)) a
  | _ => H⟩
section
variable (pre : Nat → HpS → Int → Int → Int → Prop) (S : HpS → Int → Int → Int → HpS) (F : HpS → Int → Int → Int → AV)
@[simp] theorem HN3_pre (a b c d : AV) (H : List AObj) : (HN3 pre S F).pre [a, b, c, d] H = ((hpP H a ∧ okA Int [] b ∧ okA Int [] c ∧ okA Int [] d) ∧ pre (hpF H a) (hpV H a) (de Int [] b) (de Int [] c) (de Int [] d)) := rfl
@[simp] theorem HN3_val (a b c d : AV) (H : List AObj) : (HN3 pre S F).val [a, b, c, d] H = F (hpV H a) (de Int [] b) (de Int [] c) (de Int [] d) := rfl
@[simp] theorem HN3_hp (a b c d : AV) (H : List AObj) : (HN3 pre S F).hp [a, b, c, d] H = hpN H (S (hpV H a) (de Int [] b) (de Int [] c) (de Int [] d)) a := rfl
end
theorem known_HN3 {P : Program} {f : FuncId} {pre : Nat → HpS → Int → Int → Int → Prop} {S : HpS → Int → Int → Int → HpS} {F : HpS → Int → Int → Int → AV} (h : ∀ k s b c d, pre k s b c d → Det P f [.ptr 0 0 0, en b, en c, en d] (hpH k s) (F s b c d) (hpH' k (S s b c d))) (hc : ∀ s b c d, Closed (F s b c d)) : Known P f (HN3 pre S F) := fun args H hp => by
  match args, hp with
  | [a, b, c, d], hp => exact Det.hpN hp.1.1 (h _ _ _ _ _ hp.2) (each_cons (okA_seen hp.1.2.1) (each_cons (okA_seen hp.1.2.2.1) (each_cons (okA_seen hp.1.2.2.2) each_nil))) (hc _ _ _ _)
end Go.Proofs.Ytnjpfoblmomnlaa.Sx
