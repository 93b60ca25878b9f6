/- Package heap: what its methods do. No conditions: a kit of our own. -/
import Derived.Test.YtnjpfoblmomnlaaTy19
import Derived.Test.YtnjpfoblmomnlaaIrHp
import Derived.Test.YtnjpfoblmomnlaaFnA1
namespace Go.Proofs.Ytnjpfoblmomnlaa.Sx
open Go Go.RowKit
open Hp (mget mput mdel HpS)
set_option linter.unusedVariables false
set_option linter.unusedSimpArgs false
set_option maxHeartbeats 8000000

theorem det_cmpNaN (x : Int) : Det Try.prog 299 [en x] [] (.bool false) [] := by
  refine det_finF mixed0 knows_nil ok_cmp_isNaN_int 1 (by simp) ?_
  simp [ic_cmp_isNaN_int, rs_cmp_isNaN_int]
def cCmpNaN : Ctr := C1 (fun x : Int => True) fun x => .bool false
theorem known_CmpNaN : Known Try.prog 299 cCmpNaN := known_C1 (fun x h => det_cmpNaN x) fun x => flat_bool _
def cmpI (a b : Int) : Int := if a < b then -1 else if b < a then 1 else 0
theorem det_cmpCompare (a b : Int) : Det Try.prog 309 [en a, en b] [] (.int .i64 (cmpI a b)) [] := by
  refine det_finF mixed0 (knows_cons known_CmpNaN knows_nil) ok_cmp_Compare_int 1 (by simp) ?_
  simp [ic_cmp_Compare_int, rs_cmp_Compare_int, cCmpNaN, cmpI]
  by_cases h1 : a < b
  · have h2 : ¬ b ≤ a := by omega
    simp [h1, h2]
  · by_cases h2 : b < a
    · simp [h1, h2]
    · simp [h1, h2]
def cCmpCompare : Ctr := C2 (fun a b : Int => True) fun a b => .int .i64 (cmpI a b)
theorem known_CmpCompare : Known Try.prog 309 cCmpCompare := known_C2 (fun a b h => det_cmpCompare a b) fun a b => flat_int _ _
/-- The first number that isn't zero. -/
def orI : List Int → Int
  | [] => 0
  | x :: l => if x = 0 then orI l else x
theorem det_cmpOr (l : List Int) (hl : l.length ≤ 1073741824) : Det Try.prog 308 [en l] [] (.int .i64 (orI l)) [] := by
  refine det_finF mixed0 knows_nil ok_cmp_Or_int 1 (by simp) ?_
  simp [ic_cmp_Or_int, rs_cmp_Or_int]
  refine LoopC.scan 0 l (fun i => ⟨[(3, .int .i64 0), (6, .view (l.map Cel.c)), (7, .int .i64 l.length), (8, .int .i64 i)], []⟩) (fun r => orI r = orI l) (by simp) (by simp) rfl (fun i a r hi ha hG => ?_) fun hG => ?_
  · by_cases h : a = 0
    · simp [hi, ha, h]
      simp [orI, h] at hG
      exact ⟨by omega, hG⟩
    · simp [hi, ha, h]
      simpa [orI, h] using hG
  · simp [← hG, orI]
def cCmpOr : Ctr := C1 (fun l : List Int => l.length ≤ 1073741824) fun l => .int .i64 (orI l)
theorem known_CmpOr : Known Try.prog 308 cCmpOr := known_C1 (fun l h => det_cmpOr l h) fun l => flat_int _ _
theorem cmpI_cases (a b : Int) : (a < b ∧ cmpI a b = -1) ∨ (a = b ∧ cmpI a b = 0) ∨ (b < a ∧ cmpI a b = 1) := by
  unfold cmpI
  split
  · left; omega
  · split
    · right; right; omega
    · right; left; omega
theorem cmp_ahead (x y : Thg) : decide (orI [cmpI y.Key x.Key, cmpI x.Seq y.Seq, cmpI x.Id y.Id] < 0) = Hp.ahead x y := by
  have h1 := cmpI_cases y.Key x.Key
  have h2 := cmpI_cases x.Seq y.Seq
  have h3 := cmpI_cases x.Id y.Id
  rw [Bool.eq_iff_iff]
  rcases h1 with ⟨h1, e1⟩ | ⟨h1, e1⟩ | ⟨h1, e1⟩ <;> rcases h2 with ⟨h2, e2⟩ | ⟨h2, e2⟩ | ⟨h2, e2⟩ <;> rcases h3 with ⟨h3, e3⟩ | ⟨h3, e3⟩ | ⟨h3, e3⟩ <;> simp [orI, e1, e2, e3, Hp.ahead] <;> omega
theorem det_ahead (x y : Thg) : Det Try.prog 306 [en x, en y] [] (.bool (Hp.ahead x y)) [] := by
  refine det_finF mixed0 (knows_cons known_CmpCompare (knows_cons known_CmpOr knows_nil)) ok_heap_thing_ahead 1 (by simp) ?_
  simp [ic_heap_thing_ahead, rs_heap_thing_ahead, cCmpCompare, cCmpOr]
  exact cmp_ahead x y
def cAhead : Ctr := C2 (fun x y : Thg => True) fun x y => .bool (Hp.ahead x y)
theorem known_Ahead : Known Try.prog 306 cAhead := known_C2 (fun x y h => det_ahead x y) fun x y => flat_bool _

theorem closed_tup0' {a : Int} {b : Bool} : Closed (.tup [.int .i64 a, .bool b]) := .tup rfl fun i x y h1 h2 => by
  rw [h1] at h2; cases h2
  match i with
  | 0 => simp at h1; subst h1; exact .int _ _
  | 1 => simp at h1; subst h1; exact .bool _
  | i + 2 => simp at h1
/-! the ends of methods -/
def hpAt (k : Nat) (y : HpS) (H : List AObj) : Prop := match k with
  | 0 => H[0]? = some (.rows 2 [[.nils, .map 1]]) ∧ H[1]? = some (.imap (y.2.map ie))
  | _ + 1 => H[0]? = some (.rows 2 [[.sl 1 0 y.1.length, .map 2]]) ∧ (isRows H 1 ∧ szOf H 1 = 3 ∧ (rowsOf H 1).take y.1.length = y.1.map Cel.c) ∧ H[2]? = some (.imap (y.2.map ie))
@[simp] theorem hpAt_zero (y : HpS) (H : List AObj) : hpAt 0 y H = (H[0]? = some (.rows 2 [[.nils, .map 1]]) ∧ H[1]? = some (.imap (y.2.map ie))) := rfl
@[simp] theorem hpAt_succ (k : Nat) (y : HpS) (H : List AObj) : hpAt (k + 1) y H = (H[0]? = some (.rows 2 [[.sl 1 0 y.1.length, .map 2]]) ∧ (isRows H 1 ∧ szOf H 1 = 3 ∧ (rowsOf H 1).take y.1.length = y.1.map Cel.c) ∧ H[2]? = some (.imap (y.2.map ie))) := rfl
def finHW (k m d : Nat) (rs : List IRes) (x : AV) (y : HpS) : Exit → AS → Prop
  | .normal, s | .ret, s => resp s rs ∧ frpK m d s.hp (one (resv s rs)) ∧ frz d s.hp (one (resv s rs)) = x ∧ hpAt k y s.hp
  | _, _ => False
attribute [simp] finHW
theorem seenO_cutl {H : List AObj} {R : Nat → Nat → Prop} {sz n : Nat} {rs : List (List AV)} {l : List Thg} (h : rs.take n = l.map Cel.c) : SeenO H R (.rows sz rs) (.rows sz (l.map Cel.c)) := .cut n (by rw [h]) (fun i r r' h1 h2 => by
    rw [h, h2] at h1; cases h1; rfl) fun i r r' j a b h1 h2 h3 h4 => by
  rw [h, h2] at h1; cases h1
  rw [h3] at h4; cases h4
  have := List.mem_of_getElem? h2
  simp only [List.mem_map] at this
  obtain ⟨x, _, rfl⟩ := this
  exact Closed.seen (Cel.closed x a (List.mem_of_getElem? h3)) _ _
theorem seenO_row2' {H : List AObj} {R : Nat → Nat → Prop} {a b : AV} (h1 : Seen H R a a) (h2 : Seen H R b b) : SeenO H R (.rows 2 [[a, b]]) (.rows 2 [[a, b]]) := .rows rfl (fun i r r' h1 h2 => by rw [h1] at h2; cases h2; rfl) fun i r r' j x y h3 h4 h5 h6 => by
  rw [h3] at h4; cases h4
  rw [h5] at h6; cases h6
  match i with
  | 0 =>
    simp at h3; subst h3
    match j with
    | 0 => simp at h5; subst h5; exact h1
    | 1 => simp at h5; subst h5; exact h2
    | j + 2 => simp at h5
  | i + 1 => simp at h3
theorem hpAt_shed {k : Nat} {y s0 : HpS} {H : List AObj} (h : hpAt k y H) : Shed (hpH k s0).length (List.range (hpH k s0).length) H (hpH k y) := by
  have hl : (hpH k s0).length = (hpH k y).length := by cases k <;> rfl
  rw [hl]
  refine ⟨by simp, by simp, fun j hj => range_get.2 ⟨rfl, hj⟩, fun i j k h1 h2 => ?_, fun j i o' hj ho _ => ?_⟩
  · have := range_get.1 h1; have := range_get.1 h2; omega
  · obtain ⟨e, hlt⟩ := range_get.1 hj
    subst e
    cases k with
    | zero =>
      obtain ⟨h1, h2⟩ := h
      match i with
      | 0 => simp [hpH] at ho; subst ho; exact ⟨_, h1, seenO_row2' .nils (.map (range_get.2 ⟨rfl, by simp [hpH]⟩))⟩
      | 1 => simp [hpH] at ho; subst ho; refine ⟨_, h2, ?_⟩; have := seenO_ie (H := H) (R := byG (List.range (hpH 0 y).length)) y.2; simpa using this
      | i + 2 => simp [hpH] at ho
    | succ k =>
      obtain ⟨h1, ⟨h2, h3, h4⟩, h5⟩ := h
      match i with
      | 0 => simp [hpH] at ho; subst ho; exact ⟨_, h1, seenO_row2' (.sl (range_get.2 ⟨rfl, by simp [hpH]⟩)) (.map (range_get.2 ⟨rfl, by simp [hpH]⟩))⟩
      | 1 =>
        simp only [hpH, List.getElem?_cons_succ, List.getElem?_cons_zero, Option.some.injEq] at ho; subst ho
        obtain ⟨sz, rs, e, e1, e2⟩ := isRows_some h2
        rw [e2] at h3; subst h3
        rw [e1] at h4
        exact ⟨_, e, seenO_cutl h4⟩
      | 2 => simp only [hpH, List.getElem?_cons_succ, List.getElem?_cons_zero, Option.some.injEq] at ho; subst ho; exact ⟨_, h5, seenO_ie _⟩
      | i + 3 => simp [hpH] at ho
theorem det_finHW {P : Program} {Γ : FuncId → Ctr} (hmix : P.follows .mixedOrders = true) (hG : Knows P Γ) {f : FuncId} {ic : ICode} {rs : List IRes} {nt : Nat} (hf : fnOk P f ic rs nt = true) {args : List AV} {x : AV} {k : Nat} {s y : HpS} (d : Nat) (hn : args.length ≤ nt)
    (h : vc Γ (hpH k s).length ic (finHW k (hpH k s).length d rs x y) ⟨slots 0 args, hpH k s⟩) : Det P f args (hpH k s) x (hpH k y) := acall_of_vcQ hmix hG hf hn h fun e s' h => by
  have key : finHW k (hpH k s).length d rs x y .normal s' → fin (hpH k s).length rs (fun z h => z = x ∧ h = hpH k y) .normal s' := fun ⟨h1, h2, h3, h4⟩ =>
    ⟨h1, x, _, by
      rw [← h3]
      exact Shed.weakR (hpAt_shed h4) (frzK_seen (fun i j h => (range_get.1 h).2) d _ _ h2), rfl, rfl⟩
  cases e <;> first | exact h.elim | exact key h
/-! the methods -/
@[simp] theorem take_set_c {α : Type} [Cel α] (l : List α) (i : Nat) (x : List AV) : List.take l.length ((l.map Cel.c).set i x) = (l.map Cel.c).set i x := List.take_of_length_le (by simp)
@[simp high] theorem lowO_ie (k : Nat) (m : List (Int × Int)) : LowO k (.imap (m.map ie)) = True := eq_true (seenO_ie m)
theorem closed_tup0 : Closed (.tup []) := .tup rfl fun i a b h => by simp at h
theorem det_hset (k : Nat) (s : HpS) (i : Nat) (x : Thg) (hk : k ≠ 0) (hl : i < s.1.length) : Det Try.prog 307 [.ptr 0 0 0, en (i : Int), en x] (hpH k s) (.tup []) (hpH k (Hp.hset s i x)) := by
  obtain ⟨k, rfl⟩ : ∃ j, k = j + 1 := ⟨k - 1, by omega⟩
  refine det_finHW mixed0 knows_nil ok_heap_Heap_set 1 (by simp) ?_
  simp [ic_heap_Heap_set, rs_heap_Heap_set, hpH, hl, Hp.hset]
/-- What a method that lays a thing at a place asks for. -/
def hpre (k : Nat) (s : HpS) (i : Int) (x : Thg) : Prop := (k ≠ 0 ∧ 0 ≤ i ∧ i < s.1.length) ∧ s.1.length ≤ 1073741824
def cHset : Ctr := HW2 hpre (fun s i x => Hp.hset s i.toNat x) fun s i x => .tup []
theorem nat_of {i : Int} (h : 0 ≤ i) : ∃ j : Nat, i = (j : Int) := ⟨i.toNat, by omega⟩
theorem known_Hset : Known Try.prog 307 cHset := known_HW2 (fun k s i x h => by
  obtain ⟨j, rfl⟩ := nat_of h.1.2.1
  exact det_hset k s j x h.1.1 (by have := h.1.2.2; omega)) fun s i x => closed_tup0
theorem half (i : Nat) : ((i : Int) - 1).tdiv 2 = (((i - 1) / 2 : Nat) : Int) := by
  cases i with
  | zero => rfl
  | succ i =>
    have e : ((i + 1 : Nat) : Int) - 1 = (i : Int) := by omega
    rw [e]; simp
theorem det_hup (k : Nat) (s : HpS) (i : Nat) (x : Thg) (hk : k ≠ 0) (hl : i < s.1.length) (hb : s.1.length ≤ 1073741824) : Det Try.prog 301 [.ptr 0 0 0, en (i : Int), en x] (hpH k s) (.int .i64 (Hp.upF s i x).2) (hpH k (Hp.upF s i x).1) := by
  obtain ⟨k, rfl⟩ : ∃ j, k = j + 1 := ⟨k - 1, by omega⟩
  refine det_finHW mixed0 (knows_cons known_Ahead (knows_cons known_Hset knows_nil)) ok_heap_Heap_up 1 (by simp) ?_
  simp [ic_heap_Heap_up, rs_heap_Heap_up, hpH]
  refine BackC.gen (fun a : Nat × HpS => ⟨[(0, .ptr 0 0 0), (1, .int .i64 a.1), (5, .ptr 3 0 0)], [.rows 2 [[.sl 1 0 a.2.1.length, .map 2]], .rows 3 (a.2.1.map Cel.c), .imap (a.2.2.map ie), .rows 3 [Cel.c x]]⟩) (fun a => (a.1 < a.2.1.length ∧ a.2.1.length = s.1.length) ∧ Hp.upF a.2 a.1 x = Hp.upF s i x) (fun a => a.1) (by simp) ?_ ?_
  · simp
    exact ⟨i, s.1, s.2, ⟨by simp, by simp, by simp⟩, ⟨hl, rfl⟩, rfl⟩
  rintro ⟨i', a, m⟩ ⟨⟨h1, h2⟩, h3⟩
  simp only at h1 h2
  have hh := half i'
  rw [Hp.upF] at h3
  simp only at h3
  have hp : (i' - 1) / 2 < a.length := by omega
  have hp0 : 0 < i' → (i' - 1) / 2 < i' := by omega
  have hba : a.length ≤ 1073741824 := by omega
  generalize (i' - 1) / 2 = p at *
  by_cases hc : 0 < i' ∧ Hp.ahead x (nth a p Thg.zero) = true
  · rw [dif_pos hc] at h3
    obtain ⟨c1, c2⟩ := hc
    simp [hh, h1, hba, hp, c1, c2, cAhead, cHset, hpre, hpA, hpR, Hp.hset]
    refine ⟨⟨by omega, by omega⟩, by omega, p, a.set i' (nth a p Thg.zero), mput m (nth a p Thg.zero).Id i', ⟨rfl, by simp [seenOb_self], by simp [seenOb_self], by simp [seenOb_self]⟩, ⟨⟨by simpa using hp, by simpa using h2⟩, h3⟩, hp0 c1⟩
  · rw [dif_neg hc] at h3
    by_cases c1 : 0 < i'
    · have c2 : Hp.ahead x (nth a p Thg.zero) = false := by
        cases e : Hp.ahead x (nth a p Thg.zero)
        · rfl
        · exact absurd ⟨c1, e⟩ hc
      simp [hh, h1, hba, hp, c1, c2, cAhead, cHset, hpre, hpA, hpR, ← h3, Hp.hset]
      omega
    · simp [hh, h1, hba, hp, c1, cAhead, cHset, hpre, hpA, hpR, ← h3, Hp.hset]
      omega
def cHup : Ctr := HW2 hpre (fun s i x => (Hp.upF s i.toNat x).1) fun s i x => .int .i64 (Hp.upF s i.toNat x).2
theorem known_Hup : Known Try.prog 301 cHup := known_HW2 (fun k s i x h => by
  obtain ⟨j, rfl⟩ := nat_of h.1.2.1
  exact det_hup k s j x h.1.1 (by have := h.1.2.2; omega) h.2) fun s i x => .int _ _
theorem det_hdown (k : Nat) (s : HpS) (i : Nat) (x : Thg) (hk : k ≠ 0) (hl : i < s.1.length) (hb : s.1.length ≤ 1073741824) : Det Try.prog 302 [.ptr 0 0 0, en (i : Int), en x] (hpH k s) (.tup []) (hpH k (Hp.downF s i x)) := by
  obtain ⟨k, rfl⟩ : ∃ j, k = j + 1 := ⟨k - 1, by omega⟩
  refine det_finHW mixed0 (knows_cons known_Ahead (knows_cons known_Hset knows_nil)) ok_heap_Heap_down 1 (by simp) ?_
  simp [ic_heap_Heap_down, rs_heap_Heap_down, hpH]
  refine BackC.gen (fun a : Nat × HpS => ⟨[(0, .ptr 0 0 0), (1, .int .i64 a.1), (5, .ptr 3 0 0)], [.rows 2 [[.sl 1 0 a.2.1.length, .map 2]], .rows 3 (a.2.1.map Cel.c), .imap (a.2.2.map ie), .rows 3 [Cel.c x]]⟩) (fun a => (a.1 < a.2.1.length ∧ a.2.1.length = s.1.length) ∧ Hp.downF a.2 a.1 x = Hp.downF s i x) (fun a => s.1.length - a.1) (by simp) ?_ ?_
  · simp
    exact ⟨i, s.1, s.2, ⟨by simp, by simp, by simp⟩, ⟨hl, rfl⟩, rfl⟩
  rintro ⟨i', a, m⟩ ⟨⟨h1, h2⟩, h3⟩
  simp only at h1 h2
  rw [Hp.downF] at h3
  simp only at h3
  have hba : a.length ≤ 1073741824 := by omega
  obtain ⟨q, hq⟩ : ∃ q, q = 2 * i' + 1 := ⟨_, rfl⟩
  have hq' : (2 : Int) * (i' : Int) + 1 = (q : Int) := by omega
  have hkid : Hp.kid a i' = if q + 1 < a.length ∧ Hp.ahead (nth a (q + 1) Thg.zero) (nth a q Thg.zero) = true then q + 1 else q := by rw [hq]; rfl
  have hgt : i' < q := by omega
  rw [hkid] at h3
  by_cases c1 : q + 1 < a.length
  · have c1' : (q : Int) + 1 < a.length := by omega
    have c1'' : q < a.length := by omega
    cases c2 : Hp.ahead (nth a (q + 1) Thg.zero) (nth a q Thg.zero)
    · simp only [c1, c2, and_false, Bool.false_eq_true, if_false] at h3
      cases c3 : Hp.ahead (nth a q Thg.zero) x
      · simp only [c3, dif_neg, Bool.false_eq_true, not_false_eq_true, and_false] at h3
        simp [hq', h1, hba, c1, c1', c1'', c2, c3, cAhead, cHset, hpre, hpA, hpR, ← h3, Hp.hset]
        omega
      · rw [dif_pos ⟨c1'', c3⟩] at h3
        simp [hq', h1, hba, c1, c1', c1'', c2, c3, cAhead, cHset, hpre, hpA, hpR, Hp.hset]
        refine ⟨by omega, by omega, by omega, by omega, q, a.set i' (nth a q Thg.zero), mput m (nth a q Thg.zero).Id i', ⟨by omega, by simp [seenOb_self], by simp [seenOb_self], by simp [seenOb_self]⟩, ⟨⟨by simpa using c1'', by simpa using h2⟩, h3⟩, by omega⟩
    · simp only [c1, c2, and_self, if_true] at h3
      cases c3 : Hp.ahead (nth a (q + 1) Thg.zero) x
      · simp only [c3, dif_neg, Bool.false_eq_true, not_false_eq_true, and_false] at h3
        simp [hq', h1, hba, c1, c1', c1'', c2, c3, cAhead, cHset, hpre, hpA, hpR, ← h3, Hp.hset]
        omega
      · rw [dif_pos ⟨trivial, c3⟩] at h3
        simp [hq', h1, hba, c1, c1', c1'', c2, c3, cAhead, cHset, hpre, hpA, hpR, Hp.hset]
        refine ⟨by omega, by omega, by omega, by omega, by omega, by omega, q + 1, a.set i' (nth a (q + 1) Thg.zero), mput m (nth a (q + 1) Thg.zero).Id i', ⟨by omega, by simp [seenOb_self], by simp [seenOb_self], by simp [seenOb_self]⟩, ⟨⟨by simpa using c1, by simpa using h2⟩, h3⟩, by omega⟩
  · have c1' : ¬ (q : Int) + 1 < a.length := by omega
    simp only [c1, false_and, if_false] at h3
    by_cases c4 : q < a.length
    · cases c3 : Hp.ahead (nth a q Thg.zero) x
      · simp only [c3, dif_neg, Bool.false_eq_true, not_false_eq_true, and_false] at h3
        simp [hq', h1, hba, c1, c1', c4, c3, cAhead, cHset, hpre, hpA, hpR, ← h3, Hp.hset]
        omega
      · rw [dif_pos ⟨c4, c3⟩] at h3
        simp [hq', h1, hba, c1, c1', c4, c3, cAhead, cHset, hpre, hpA, hpR, Hp.hset]
        refine ⟨by omega, by omega, by omega, q, a.set i' (nth a q Thg.zero), mput m (nth a q Thg.zero).Id i', ⟨by omega, by simp [seenOb_self], by simp [seenOb_self], by simp [seenOb_self]⟩, ⟨⟨by simpa using c4, by simpa using h2⟩, h3⟩, by omega⟩
    · rw [dif_neg (fun h => c4 h.1)] at h3
      simp [hq', h1, hba, c1, c1', c4, cAhead, cHset, hpre, hpA, hpR, ← h3, Hp.hset]
      omega
def cHdown : Ctr := HW2 hpre (fun s i x => Hp.downF s i.toNat x) fun s i x => .tup []
theorem known_Hdown : Known Try.prog 302 cHdown := known_HW2 (fun k s i x h => by
  obtain ⟨j, rfl⟩ := nat_of h.1.2.1
  exact det_hdown k s j x h.1.1 (by have := h.1.2.2; omega) h.2) fun s i x => closed_tup0
theorem up_len' : ∀ (n : Nat) (h : HpS) (i : Nat) (x : Thg), i ≤ n → (Hp.upF h i x).1.1.length = h.1.length
  | 0, h, i, x, hi => by rw [Hp.upF, dif_neg (by omega)]; simp [Hp.hset]
  | n + 1, h, i, x, hi => by
    rw [Hp.upF]
    split
    · rw [up_len' n _ _ _ (by omega)]; simp [Hp.hset]
    · simp [Hp.hset]
theorem det_hfix (k : Nat) (s : HpS) (i : Nat) (x : Thg) (hk : k ≠ 0) (hl : i < s.1.length) (hb : s.1.length ≤ 1073741824) : Det Try.prog 288 [.ptr 0 0 0, en (i : Int), en x] (hpH k s) (.tup []) (hpH k (Hp.fixF s i x)) := by
  obtain ⟨k, rfl⟩ : ∃ j, k = j + 1 := ⟨k - 1, by omega⟩
  refine det_finHW mixed0 (knows_cons known_Hup (knows_cons known_Hdown knows_nil)) ok_heap_Heap_fix 1 (by simp) ?_
  have hu := up_len' i s i x (Nat.le_refl _)
  have hl' : i < (Hp.upF s i x).1.1.length := by omega
  have hb' : (Hp.upF s i x).1.1.length ≤ 1073741824 := by omega
  obtain ⟨a, m⟩ := s
  by_cases hc : (Hp.upF (a, m) i x).2 = i
  · have e : Hp.fixF (a, m) i x = Hp.downF (Hp.upF (a, m) i x).1 i x := by unfold Hp.fixF; rw [if_pos hc]
    simp [ic_heap_Heap_fix, rs_heap_Heap_fix, hpH, hl, hb, cHup, cHdown, hpre, hpA, hpR, hc, hl', hb', e]
  · have e : Hp.fixF (a, m) i x = (Hp.upF (a, m) i x).1 := by unfold Hp.fixF; rw [if_neg hc]
    simp [ic_heap_Heap_fix, rs_heap_Heap_fix, hpH, hl, hb, cHup, cHdown, hpre, hpA, hpR, hc, hl', hb', e]
def cHfix : Ctr := HW2 hpre (fun s i x => Hp.fixF s i.toNat x) fun s i x => .tup []
theorem known_Hfix : Known Try.prog 288 cHfix := known_HW2 (fun k s i x h => by
  obtain ⟨j, rfl⟩ := nat_of h.1.2.1
  exact det_hfix k s j x h.1.1 (by have := h.1.2.2; omega) h.2) fun s i x => closed_tup0
theorem det_hLen (k : Nat) (s : HpS) (hk : k = 0 → s.1 = []) : Det Try.prog 303 [.ptr 0 0 0] (hpH k s) (.int .i64 s.1.length) (hpH k s) := by
  refine det_finHW mixed0 knows_nil ok_heap_Heap_Len 1 (by simp) ?_
  obtain ⟨a, m⟩ := s
  cases k with
  | zero =>
    have := hk rfl
    simp only at this
    subst this
    simp [ic_heap_Heap_Len, rs_heap_Heap_Len, hpH]
  | succ k => simp [ic_heap_Heap_Len, rs_heap_Heap_Len, hpH]
def cHlen : Ctr := HW0 (fun k s => k = 0 → s.1 = []) (fun s => s) fun s => .int .i64 s.1.length
theorem known_Hlen : Known Try.prog 303 cHlen := known_HW0 (fun k s h => det_hLen k s h) fun s => .int _ _
def enF (r : Int × Bool) : AV := .tup [.int .i64 r.1, .bool r.2]
@[simp] theorem enF_eq (r : Int × Bool) : enF r = .tup [.int .i64 r.1, .bool r.2] := rfl
theorem det_hFirst (k : Nat) (s : HpS) (hk : k = 0 → s.1 = []) : Det Try.prog 289 [.ptr 0 0 0] (hpH k s) (enF (Hp.firstF s)) (hpH k s) := by
  refine det_finHW mixed0 (knows_cons known_Hlen knows_nil) ok_heap_Heap_First 1 (by simp) ?_
  obtain ⟨a, m⟩ := s
  cases k with
  | zero =>
    have := hk rfl
    simp only at this
    subst this
    simp [ic_heap_Heap_First, rs_heap_Heap_First, hpH, cHlen, hpA, hpR, Hp.firstF]
  | succ k =>
    cases a with
    | nil => simp [ic_heap_Heap_First, rs_heap_Heap_First, hpH, cHlen, hpA, hpR, Hp.firstF]
    | cons x a =>
      simp [ic_heap_Heap_First, rs_heap_Heap_First, hpH, cHlen, hpA, hpR, Hp.firstF]
      omega
def cHfirst : Ctr := HW0 (fun k s => k = 0 → s.1 = []) (fun s => s) fun s => enF (Hp.firstF s)
theorem known_Hfirst : Known Try.prog 289 cHfirst := known_HW0 (fun k s h => det_hFirst k s h) fun s => closed_tup0'
end Go.Proofs.Ytnjpfoblmomnlaa.Sx
/- Package heap: what is put in, dropped and popped. No conditions: a kit of our own. -/
namespace Go.Proofs.Ytnjpfoblmomnlaa.Sx
open Go Go.RowKit
open Hp (mget mput mdel HpS)
set_option linter.unusedVariables false
set_option linter.unusedSimpArgs false

@[simp] theorem take_app_c (b : List Thg) (x : Thg) : List.take b.length ((b ++ [x]).map Cel.c) = b.map Cel.c := by simp
@[simp] theorem take_app_c' (b : List Thg) (x : Thg) : List.take b.length (b.map Cel.c ++ [Cel.c x]) = b.map Cel.c := by simp
theorem det_hDrop (k : Nat) (s : HpS) (id : Int) (hk : k = 0 → s.1 = []) (hb : s.1.length ≤ 1073741824) (hok : Hp.HpOk s) : Det Try.prog 290 [.ptr 0 0 0, en id] (hpH k s) (.bool (Hp.dropF s id).2) (hpH k (Hp.dropF s id).1) := by
  refine det_finHW mixed0 (knows_cons known_Hfix knows_nil) ok_heap_Heap_Drop 1 (by simp) ?_
  obtain ⟨a, m⟩ := s
  cases hg : mget m id with
  | none =>
    have e : Hp.dropF (a, m) id = ((a, m), false) := by unfold Hp.dropF; simp only [hg]
    cases k with
    | zero => simp [ic_heap_Heap_Drop, rs_heap_Heap_Drop, hpH, hg, lookAns, e]
    | succ k => simp [ic_heap_Heap_Drop, rs_heap_Heap_Drop, hpH, hg, lookAns, e]
  | some i =>
    obtain ⟨j, hj, e1⟩ := hok.at_.key id (by
      have h : ¬ mget m id = none := by rw [hg]; simp
      rw [Hp.mget_none] at h
      simpa using h)
    have h2 := hok.at_.at_ j hj
    rw [e1] at h2
    simp only at h2 hj
    rw [hg] at h2
    obtain rfl : i = (j : Int) := Option.some.inj h2
    cases k with
    | zero =>
      have := hk rfl
      simp only at this
      subst this
      simp at hj
    | succ k =>
      have hne : 0 < a.length := by omega
      obtain ⟨b, x, rfl⟩ : ∃ b x, a = b ++ [x] := ⟨a.dropLast, a.getLast (by intro e; simp [e] at hne), (List.dropLast_concat_getLast (by intro e; simp [e] at hne)).symm⟩
      have ev : Hp.dropF (b ++ [x], m) id = if x.Id = id then ((b, mdel m id), true) else (Hp.fixF (b, mdel m id) j x, true) := by
        unfold Hp.dropF
        simp only [hg]
        simp [nth]
      have hx : nth (b ++ [x]) b.length Thg.zero = x := by simp [nth]
      have hbl : b.length ≤ 1073741823 := by simp at hb; omega
      have hjl : j < b.length + 1 := by simpa using hj
      by_cases hi : x.Id = id
      · simp [-List.map_append, ic_heap_Heap_Drop, rs_heap_Heap_Drop, hpH, hg, lookAns, ev, hi, cHfix, hpre, hpA, hpR, vcLoose, heapsOf, hx, hbl]
        omega
      · have hjne : j ≠ b.length := fun e => hi (by
          rw [e] at e1
          change (nth (b ++ [x]) b.length Thg.zero).Id = id at e1
          rw [hx] at e1; exact e1)
        simp [-List.map_append, ic_heap_Heap_Drop, rs_heap_Heap_Drop, hpH, hg, lookAns, ev, hi, cHfix, hpre, hpA, hpR, vcLoose, heapsOf, hx, hbl]
        omega
def hdok (k : Nat) (s : HpS) : Prop := ((k = 0 → s.1 = []) ∧ s.1.length ≤ 1073741824) ∧ Hp.HpOk s
def cHdrop : Ctr := HW1 (fun k s (id : Int) => hdok k s) (fun s id => (Hp.dropF s id).1) fun s id => .bool (Hp.dropF s id).2
theorem known_Hdrop : Known Try.prog 290 cHdrop := known_HW1 (fun k s id h => det_hDrop k s id h.1.1 h.1.2 h.2) fun s id => .bool _
theorem det_hPop (k : Nat) (s : HpS) (h : hdok k s) : Det Try.prog 261 [.ptr 0 0 0] (hpH k s) (enF (Hp.popF s).2) (hpH k (Hp.popF s).1) := by
  refine det_finHW mixed0 (knows_cons known_Hfirst (knows_cons known_Hdrop knows_nil)) ok_heap_Heap_Pop 2 (by simp) ?_
  obtain ⟨a, m⟩ := s
  cases hf : (Hp.firstF (a, m)).2 with
  | false =>
    have e : Hp.popF (a, m) = ((a, m), Hp.firstF (a, m)) := by unfold Hp.popF; rw [hf]; rfl
    cases k with
    | zero =>
      have := h.1.1 rfl
      simp only at this
      subst this
      simp [ic_heap_Heap_Pop, rs_heap_Heap_Pop, hpH, cHfirst, hpA, hpR, e, hf]
    | succ k => simp [ic_heap_Heap_Pop, rs_heap_Heap_Pop, hpH, cHfirst, hpA, hpR, e, hf]
  | true =>
    have e : Hp.popF (a, m) = ((Hp.dropF (a, m) (Hp.firstF (a, m)).1).1, Hp.firstF (a, m)) := by unfold Hp.popF; rw [if_pos hf]
    have hd : hdok 1 (a, m) := ⟨⟨fun h => by simp at h, h.1.2⟩, h.2⟩
    cases k with
    | zero =>
      have := h.1.1 rfl
      simp only at this
      subst this
      simp [Hp.firstF] at hf
    | succ k => simp [ic_heap_Heap_Pop, rs_heap_Heap_Pop, hpH, cHfirst, cHdrop, hpA, hpR, e, hf, hd]
def cHpop : Ctr := HW0 hdok (fun s => (Hp.popF s).1) fun s => enF (Hp.popF s).2
theorem known_Hpop : Known Try.prog 261 cHpop := known_HW0 (fun k s h => det_hPop k s h) fun s => closed_tup0'
/-- Put lays anew. -/
def hpNt (k q : Nat) (y : HpS) (H : List AObj) : Prop := match k with
  | 0 => H[0]? = some (.rows 2 [[.sl q 0 y.1.length, .map 1]]) ∧ H[1]? = some (.imap (y.2.map ie)) ∧ H[q]? = some (.rows 3 (y.1.map Cel.c)) ∧ 1 < q
  | _ + 1 => H[0]? = some (.rows 2 [[.sl q 0 y.1.length, .map 2]]) ∧ H[2]? = some (.imap (y.2.map ie)) ∧ H[q]? = some (.rows 3 (y.1.map Cel.c)) ∧ 2 < q
@[simp] theorem hpNt_zero (q : Nat) (y : HpS) (H : List AObj) : hpNt 0 q y H = (H[0]? = some (.rows 2 [[.sl q 0 y.1.length, .map 1]]) ∧ H[1]? = some (.imap (y.2.map ie)) ∧ H[q]? = some (.rows 3 (y.1.map Cel.c)) ∧ 1 < q) := rfl
@[simp] theorem hpNt_succ (k q : Nat) (y : HpS) (H : List AObj) : hpNt (k + 1) q y H = (H[0]? = some (.rows 2 [[.sl q 0 y.1.length, .map 2]]) ∧ H[2]? = some (.imap (y.2.map ie)) ∧ H[q]? = some (.rows 3 (y.1.map Cel.c)) ∧ 2 < q) := rfl
def finHN (k q m d : Nat) (rs : List IRes) (x : AV) (y : HpS) : Exit → AS → Prop
  | .normal, s | .ret, s => resp s rs ∧ frpK m d s.hp (one (resv s rs)) ∧ frz d s.hp (one (resv s rs)) = x ∧ hpNt k q y s.hp
  | _, _ => False
attribute [simp] finHN
theorem seenO_row2'' {H : List AObj} {R : Nat → Nat → Prop} {a b a' b' : AV} (h1 : Seen H R a a') (h2 : Seen H R b b') : SeenO H R (.rows 2 [[a, b]]) (.rows 2 [[a', b']]) := .rows rfl (fun i r r' h1 h2 => by
  match i with
  | 0 => simp at h1 h2; subst h1; subst h2; rfl
  | i + 1 => simp at h1) fun i r r' j x y h3 h4 h5 h6 => by
  match i with
  | 0 =>
    simp at h3 h4; subst h3; subst h4
    match j with
    | 0 => simp at h5 h6; subst h5; subst h6; exact h1
    | 1 => simp at h5 h6; subst h5; subst h6; exact h2
    | j + 2 => simp at h5
  | i + 1 => simp at h3
def hpG (k q : Nat) : List Nat := match k with
  | 0 => [0, 1, q]
  | _ + 1 => [0, 1, 2, q]
theorem hpNt_shed {k q : Nat} {y s0 : HpS} {H : List AObj} (h : hpNt k q y H) : Shed (hpH k s0).length (hpG k q) H (hpH' k y) := by
  cases k with
  | zero =>
    obtain ⟨h1, h2, h3, h4⟩ := h
    refine ⟨rfl, by simp [hpH, hpG], fun j hj => ?_, fun i j k hi hj => ?_, fun j i o' hj ho _ => ?_⟩
    · have : j < 2 := hj
      match j with
      | 0 => rfl
      | 1 => rfl
      | j + 2 => omega
    · rcases get3 hi with ⟨rfl, e⟩ | ⟨rfl, e⟩ | ⟨rfl, e⟩ <;> rcases get3 hj with ⟨rfl, h⟩ | ⟨rfl, h⟩ | ⟨rfl, h⟩ <;> first | rfl | omega
    · rcases get3 hj with ⟨rfl, rfl⟩ | ⟨rfl, rfl⟩ | ⟨rfl, rfl⟩
      · simp [hpH'] at ho; subst ho; exact ⟨_, h1, seenO_row2'' (.sl (byG_mk rfl)) (.map (byG_mk rfl))⟩
      · simp only [hpH', List.getElem?_cons_succ, List.getElem?_cons_zero, Option.some.injEq] at ho; subst ho; exact ⟨_, h2, seenO_ie _⟩
      · simp only [hpH', List.getElem?_cons_succ, List.getElem?_cons_zero, Option.some.injEq] at ho; subst ho; exact ⟨_, h3, seenO_cc _⟩
  | succ k =>
    obtain ⟨h1, h2, h3, h4⟩ := h
    refine ⟨rfl, by simp [hpH, hpG], fun j hj => ?_, fun i j k hi hj => ?_, fun j i o' hj ho hd => ?_⟩
    · have : j < 3 := hj
      match j with
      | 0 => rfl
      | 1 => rfl
      | 2 => rfl
      | j + 3 => omega
    · rcases get4 hi with ⟨rfl, e⟩ | ⟨rfl, e⟩ | ⟨rfl, e⟩ | ⟨rfl, e⟩ <;> rcases get4 hj with ⟨rfl, h⟩ | ⟨rfl, h⟩ | ⟨rfl, h⟩ | ⟨rfl, h⟩ <;> first | rfl | omega
    · rcases get4 hj with ⟨rfl, rfl⟩ | ⟨rfl, rfl⟩ | ⟨rfl, rfl⟩ | ⟨rfl, rfl⟩
      · simp [hpH'] at ho; subst ho; exact ⟨_, h1, seenO_row2'' (.sl (byG_mk rfl)) (.map (byG_mk rfl))⟩
      · simp [hpH'] at ho; exact absurd ho.symm hd
      · simp only [hpH', List.getElem?_cons_succ, List.getElem?_cons_zero, Option.some.injEq] at ho; subst ho; exact ⟨_, h2, seenO_ie _⟩
      · simp only [hpH', List.getElem?_cons_succ, List.getElem?_cons_zero, Option.some.injEq] at ho; subst ho; exact ⟨_, h3, seenO_cc _⟩
theorem det_finHN {P : Program} {Γ : FuncId → Ctr} (hmix : P.follows .mixedOrders = true) (hG : Knows P Γ) {f : FuncId} {ic : ICode} {rs : List IRes} {nt : Nat} (hf : fnOk P f ic rs nt = true) {args : List AV} {x : AV} {k : Nat} {s y : HpS} (q : Nat) (hn : args.length ≤ nt) (hx : Closed x)
    (h : vc Γ (hpH k s).length ic (finHN k q (hpH k s).length 0 rs x y) ⟨slots 0 args, hpH k s⟩) : Det P f args (hpH k s) x (hpH' k y) := acall_of_vcQ hmix hG hf hn h fun e s' h => by
  have key : finHN k q (hpH k s).length 0 rs x y .normal s' → fin (hpH k s).length rs (fun z h => z = x ∧ h = hpH' k y) .normal s' := fun ⟨h1, h2, h3, h4⟩ =>
    ⟨h1, x, _, by
      have e : one (resv s' rs) = x := h3
      rw [e]
      exact Shed.weakR (hpNt_shed h4) (hx.seen _ _), rfl, rfl⟩
  cases e <;> first | exact h.elim | exact key h
theorem det_hPut (k : Nat) (s : HpS) (id key seq : Int) (hk : k = 0 → s.1 = []) (hb : s.1.length ≤ 1073741823) (hnew : mget s.2 id = none) : Det Try.prog 260 [.ptr 0 0 0, en id, en key, en seq] (hpH k s) (.bool true) (hpH' k (Hp.putF s ⟨id, key, seq⟩).1) := by
  obtain ⟨a, m⟩ := s
  simp only at hnew hb hk
  have e : Hp.putF (a, m) ⟨id, key, seq⟩ = (Hp.fixF (a ++ [⟨id, key, seq⟩], m) a.length ⟨id, key, seq⟩, true) := by unfold Hp.putF; simp only [hnew]
  cases k with
  | zero =>
    have := hk rfl
    subst this
    refine det_finHN mixed0 (knows_cons known_Hfix knows_nil) ok_heap_Heap_Put 3 (by simp) (.bool _) ?_
    simp [ic_heap_Heap_Put, rs_heap_Heap_Put, hpH, hnew, lookAns, cHfix, hpre, hpA, hpR, e, vcLoose, heapsOf]
  | succ k =>
    refine det_finHN mixed0 (knows_cons known_Hfix knows_nil) ok_heap_Heap_Put 4 (by simp) (.bool _) ?_
    simp [ic_heap_Heap_Put, rs_heap_Heap_Put, hpH, hnew, lookAns, cHfix, hpre, hpA, hpR, e, vcLoose, heapsOf]
    refine ⟨hb, fun row h => ?_, by omega, hb⟩
    rcases h with ⟨x, _, rfl⟩ | rfl
    · exact Cel.ok_c [] x
    · exact Cel.ok_c [] (⟨id, key, seq⟩ : Thg)
def cHput : Ctr := HN3 (fun k s id key seq => ((k = 0 → s.1 = []) ∧ s.1.length ≤ 1073741823) ∧ mget s.2 id = none) (fun s id key seq => (Hp.putF s ⟨id, key, seq⟩).1) fun s id key seq => .bool true
theorem known_Hput : Known Try.prog 260 cHput := known_HN3 (fun k s id key seq h => det_hPut k s id key seq h.1.1 h.1.2 h.2) fun s id key seq => .bool _
theorem det_hNew : Det Try.prog 259 [] [] (.ptr 0 0 0) [.rows 2 [[.nils, .map 1]], .imap []] := acall_of_vcQ mixed0 knows_nil ok_heap_New (by simp) (Q := fun e s => (e = .ret ∨ e = .normal) ∧ resp s rs_heap_New ∧ one (resv s rs_heap_New) = .ptr 1 0 0 ∧ s.hp = [.imap [], .rows 2 [[.nils, .map 0]]]) (by
    simp [ic_heap_New, rs_heap_New]) fun e s h => by
  have key : fin 0 rs_heap_New (fun z h => z = .ptr 0 0 0 ∧ h = [.rows 2 [[.nils, .map 1]], .imap []]) .normal s := ⟨h.2.1, .ptr 0 0 0, _, by
    rw [h.2.2.1, h.2.2.2]
    refine Shed.weakR (g := [1, 0]) ⟨rfl, by simp, fun j hj => by omega, fun i j k hi hj => ?_, fun j i o' hj ho _ => ?_⟩ (.ptr (byG_mk rfl))
    · rcases get2 hi with ⟨rfl, rfl⟩ | ⟨rfl, rfl⟩ <;> rcases get2 hj with ⟨rfl, h⟩ | ⟨rfl, h⟩ <;> first | rfl | omega
    · rcases get2 hj with ⟨rfl, rfl⟩ | ⟨rfl, rfl⟩
      · simp at ho; subst ho; exact ⟨_, rfl, seenO_row2'' .nils (.map (byG_mk rfl))⟩
      · simp at ho; subst ho; exact ⟨_, rfl, seenO_ie []⟩, rfl, rfl⟩
  rcases h.1 with rfl | rfl <;> exact key
def cHnew : Ctr := ⟨fun a H => a = [], fun a H => .ptr H.length 0 0, fun a H => H ++ [.rows 2 [[.nils, .map (H.length + 1)]], .imap []]⟩
theorem known_Hnew : Known Try.prog 259 cHnew := fun args H hp => by
  have : args = [] := hp
  subst this
  have := Det.own det_hNew each_nil (by simp [lowD]) (by simp [lowOD, lowD]) H
  simpa [shv, shO, cHnew] using this
end Go.Proofs.Ytnjpfoblmomnlaa.Sx
