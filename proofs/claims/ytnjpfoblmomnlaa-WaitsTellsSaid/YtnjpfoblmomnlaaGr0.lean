/- Graphs, plainly: orders, levels, what is reached, by the program's way and by the document's. No conditions: a kit of our own. -/
import Derived.Test.YtnjpfoblmomnlaaTy19
namespace Go.Proofs.Ytnjpfoblmomnlaa.Sx.Gr
open Go Go.RowKit
open Hp
set_option linter.unusedVariables false
set_option linter.unusedSimpArgs false

/-- An arrow between nodes. -/
def val (N : List Int) (a : Arc) : Bool := decide (a.From ∈ N) && decide (a.To ∈ N)
/-- Where arrows from a node lead to. -/
def tosL (N : List Int) (A : List Arc) (n : Int) : List Int := (A.filter fun a => val N a && decide (a.From = n)).map (·.To)
/-- No arrow leads to the node from one that isn't told. -/
def freeL (N : List Int) (A : List Arc) (told : List Int) (n : Int) : Bool := A.all fun a => !(decide (a.To = n) && decide (a.From ∈ N) && !decide (a.From ∈ told))
def may (N : List Int) (A : List Arc) (told : List Int) (n : Int) : Bool := !decide (n ∈ told) && freeL N A told n
def avail (N : List Int) (A : List Arc) (told : List Int) : Option Int := N.find? (may N A told)
/-- The order, so many at most. -/
def seqO (N : List Int) (A : List Arc) : Nat → List Int → List Int
  | 0, _ => []
  | k + 1, told => match avail N A told with
    | none => []
    | some n => n :: seqO N A k (told ++ [n])
/-- How many arrows lead to a node from those that aren't told. -/
def cntL (N : List Int) (A : List Arc) (told : List Int) (n : Int) : Nat := (A.filter fun a => val N a && decide (a.To = n) && !decide (a.From ∈ told)).length
def lvOf (m : List (Int × Int)) (n : Int) : Int := (mget m n).getD 0
/-- The level of a node behind those that are told with theirs. -/
def levR (A : List Arc) (done : List (Int × Int)) (n : Int) : Int := done.foldl (fun v d => A.foldl (fun v a => if a.From = d.1 ∧ a.To = n then max v (d.2 + 1) else v) v) 0

structure OrS where
  h : HpS
  fr : List (Int × Int)
  lv : List (Int × Int)
def relax (n : Int) (s : OrS) (to : Int) : OrS :=
  { h := if lvOf s.fr to - 1 = 0 then (putF s.h ⟨to, 0, to⟩).1 else s.h
    fr := mput s.fr to (lvOf s.fr to - 1)
    lv := mput s.lv to (max (lvOf s.lv to) (lvOf s.lv n + 1)) }
theorem lvOf_put (m : List (Int × Int)) (k v j : Int) : lvOf (mput m k v) j = if j = k then v else lvOf m j := by
  unfold lvOf; rw [mget_put]; split <;> rfl
theorem levR_snoc (A : List Arc) (done : List (Int × Int)) (d : Int × Int) (n : Int) : levR A (done ++ [d]) n = A.foldl (fun v a => if a.From = d.1 ∧ a.To = n then max v (d.2 + 1) else v) (levR A done n) := by
  simp [levR]
theorem fold_max (A : List Arc) (k n l : Int) : ∀ v, A.foldl (fun v a => if a.From = k ∧ a.To = n then max v l else v) v = if ∃ a ∈ A, a.From = k ∧ a.To = n then max v l else v := by
  induction A with
  | nil => intro v; simp
  | cons a A ih =>
    intro v
    simp only [List.foldl_cons]
    rw [ih]
    by_cases h : a.From = k ∧ a.To = n
    · rw [if_pos h, if_pos (⟨a, by simp, h⟩ : ∃ b ∈ a :: A, b.From = k ∧ b.To = n)]
      split <;> omega
    · rw [if_neg h]
      have : (∃ b ∈ a :: A, b.From = k ∧ b.To = n) ↔ ∃ b ∈ A, b.From = k ∧ b.To = n := by
        constructor
        · rintro ⟨b, hb, h2⟩
          rcases List.mem_cons.1 hb with e | e
          · exact absurd (e ▸ h2) h
          · exact ⟨b, e, h2⟩
        · rintro ⟨b, hb, h2⟩; exact ⟨b, List.mem_cons_of_mem _ hb, h2⟩
      simp only [this]
theorem mem_tosL {N : List Int} {A : List Arc} {n m : Int} : m ∈ tosL N A n ↔ n ∈ N ∧ m ∈ N ∧ ∃ a ∈ A, a.From = n ∧ a.To = m := by
  simp only [tosL, List.mem_map, List.mem_filter, val, Bool.and_eq_true, decide_eq_true_eq]
  constructor
  · rintro ⟨a, ⟨h1, ⟨h2, h3⟩, h4⟩, h5⟩
    exact ⟨h4 ▸ h2, h5 ▸ h3, a, h1, h4, h5⟩
  · rintro ⟨h1, h2, a, h3, h4, h5⟩
    exact ⟨a, ⟨h3, ⟨h4 ▸ h1, h5 ▸ h2⟩, h4⟩, h5⟩
theorem free_iff {N : List Int} {A : List Arc} {told : List Int} {n : Int} : freeL N A told n = true ↔ ∀ a ∈ A, a.To = n → a.From ∈ N → a.From ∈ told := by
  simp only [freeL, List.all_eq_true, Bool.not_eq_true', Bool.and_eq_false_iff, decide_eq_false_iff_not, Bool.not_eq_false', decide_eq_true_eq]
  constructor
  · intro h a ha h1 h2
    rcases h a ha with (h | h) | h
    · exact absurd h1 h
    · exact absurd h2 h
    · exact h
  · intro h a ha
    by_cases h1 : a.To = n
    · by_cases h2 : a.From ∈ N
      · exact .inr (h a ha h1 h2)
      · exact .inl (.inr h2)
    · exact .inl (.inl h1)
theorem cnt_zero {N : List Int} {A : List Arc} {told : List Int} {n : Int} (hn : n ∈ N) : cntL N A told n = 0 ↔ freeL N A told n = true := by
  rw [free_iff, cntL, List.length_eq_zero_iff, List.filter_eq_nil_iff]
  simp only [val, Bool.and_eq_true, decide_eq_true_eq, Bool.not_eq_true', decide_eq_false_iff_not, not_and, Decidable.not_not]
  constructor
  · intro h a ha h1 h2
    exact h a ha ⟨⟨h2, h1 ▸ hn⟩, h1⟩
  · intro h a ha ⟨⟨h1, h2⟩, h3⟩
    exact h a ha h3 h1
theorem cnt_count (N : List Int) (A : List Arc) (told : List Int) (n m : Int) (h : n ∉ told) : cntL N A told m = cntL N A (told ++ [n]) m + (tosL N A n).count m := by
  simp only [cntL, tosL, List.mem_append, List.mem_singleton]
  induction A with
  | nil => simp
  | cons a A ih =>
    simp only [List.filter_cons]
    by_cases hv : val N a = true
    · by_cases h1 : a.To = m
      · by_cases h2 : a.From = n
        · simp only [hv, h1, h2, h, decide_true, Bool.true_and, decide_false, Bool.not_false, if_true, or_true, Bool.not_true, List.length_cons, List.map_cons, List.count_cons, BEq.rfl, Bool.false_eq_true, if_false]
          omega
        · simp only [hv, h1, h2, decide_true, Bool.true_and, decide_false, Bool.false_eq_true, if_false, or_false]
          split
          · simp only [List.length_cons]; omega
          · exact ih
      · have : (a.To == m) = false := by simpa using h1
        simp only [hv, h1, decide_false, Bool.and_false, Bool.false_and, Bool.false_eq_true, if_false, Bool.true_and]
        split
        · simp only [List.map_cons, List.count_cons, this, Bool.false_eq_true, if_false]; omega
        · exact ih
    · simp only [hv, Bool.false_and, Bool.false_eq_true, if_false]; exact ih

/-- Those that are told, each with its level. -/
def doneOf (A : List Arc) (told : List Int) : List (Int × Int) := told.foldl (fun d n => d ++ [(n, levR A d n)]) []
theorem doneOf_snoc (A : List Arc) (told : List Int) (n : Int) : doneOf A (told ++ [n]) = doneOf A told ++ [(n, levR A (doneOf A told) n)] := by simp [doneOf]
/-- What is told is the order so far. -/
def GSeq (N : List Int) (A : List Arc) (told : List Int) : Prop := ∀ k, seqO N A (k + told.length) [] = told ++ seqO N A k told
theorem gseq_nil (N : List Int) (A : List Arc) : GSeq N A [] := fun k => rfl
theorem gseq_snoc {N : List Int} {A : List Arc} {told : List Int} {n : Int} (h : GSeq N A told) (hn : avail N A told = some n) : GSeq N A (told ++ [n]) := fun k => by
  have := h (k + 1)
  simp only [seqO, hn] at this
  rw [List.append_assoc, List.singleton_append, ← this]
  congr 1
  simp; omega
theorem gseq_end {N : List Int} {A : List Arc} {told : List Int} (hn : avail N A told = none) (k : Nat) : seqO N A k told = [] := by
  cases k with
  | zero => rfl
  | succ k => simp only [seqO, hn]
theorem gseq_uniq {N : List Int} {A : List Arc} {a b : List Int} (ha : GSeq N A a) (hb : GSeq N A b) (ea : avail N A a = none) (eb : avail N A b = none) : a = b := by
  have h1 := ha b.length
  have h2 := hb a.length
  rw [gseq_end ea, List.append_nil] at h1
  rw [gseq_end eb, List.append_nil, Nat.add_comm] at h2
  exact h1.symm.trans h2
/-- What holds while nodes are told. -/
structure GInv (N : List Int) (A : List Arc) (done : List (Int × Int)) (s : OrS) : Prop where
  hp : HpOk s.h
  th : ∀ y, Mem s.h.1 y → y.Key = 0 ∧ y.Seq = y.Id
  rd : ∀ n, (∃ y, Mem s.h.1 y ∧ y.Id = n) ↔ n ∈ N ∧ may N A (done.map (·.1)) n = true
  fr : ∀ n ∈ N, lvOf s.fr n = cntL N A (done.map (·.1)) n
  lv : ∀ n ∈ N, lvOf s.lv n = levR A done n
  nd : (done.map (·.1)).Nodup
  sub : ∀ n ∈ done.map (·.1), n ∈ N
  pre : ∀ n ∈ done.map (·.1), freeL N A (done.map (·.1)) n = true
  seq : GSeq N A (done.map (·.1))
  dn : done = doneOf A (done.map (·.1))
/-- In the midst of a node's arrows: those of 'r' are to come. -/
structure Mid (N : List Int) (A : List Arc) (done : List (Int × Int)) (n l : Int) (r : List Int) (s : OrS) : Prop where
  hp : HpOk s.h
  th : ∀ y, Mem s.h.1 y → y.Key = 0 ∧ y.Seq = y.Id
  rd : ∀ m, (∃ y, Mem s.h.1 y ∧ y.Id = m) ↔ m ∈ N ∧ m ∉ done.map (·.1) ∧ m ≠ n ∧ cntL N A (done.map (·.1) ++ [n]) m + r.count m = 0
  fr : ∀ m ∈ N, lvOf s.fr m = ((cntL N A (done.map (·.1) ++ [n]) m + r.count m : Nat) : Int)
  ln : lvOf s.lv n = l
  lv : ∀ m ∈ N, (m ∈ r → lvOf s.lv m ≤ max (levR A done m) (l + 1)) ∧ (m ∉ r → lvOf s.lv m = levR A (done ++ [(n, l)]) m) ∧ levR A done m ≤ lvOf s.lv m ∧ (lvOf s.lv m = levR A done m ∨ lvOf s.lv m = max (levR A done m) (l + 1))
theorem levR_step (N : List Int) (A : List Arc) (done : List (Int × Int)) (n l m : Int) (hn : n ∈ N) (hm : m ∈ N) : levR A (done ++ [(n, l)]) m = if m ∈ tosL N A n then max (levR A done m) (l + 1) else levR A done m := by
  rw [levR_snoc, fold_max]
  have : (∃ a ∈ A, a.From = (n, l).1 ∧ a.To = m) ↔ m ∈ tosL N A n := by
    rw [mem_tosL]; simp [hn, hm]
  simp only [this]
theorem relax_mid {N : List Int} {A : List Arc} {done : List (Int × Int)} {n l to : Int} {r : List Int} {s : OrS} (hn : n ∈ N) (hx : n ∉ tosL N A n) (hto : to ∈ tosL N A n) (hnd : to ∉ done.map (·.1)) (h : Mid N A done n l (to :: r) s) : Mid N A done n l r (relax n s to) := by
  have hN : to ∈ N := (mem_tosL.1 hto).2.1
  have hne : to ≠ n := fun e => hx (e ▸ hto)
  have hfr := h.fr to hN
  simp only [List.count_cons_self] at hfr
  have cne : ∀ m, m ≠ to → (to :: r).count m = r.count m := fun m hm => List.count_cons_of_ne (fun e => hm e.symm)
  have hp : HpOk (relax n s to).h ∧ (∀ y, Mem (relax n s to).h.1 y → y.Key = 0 ∧ y.Seq = y.Id) ∧ ∀ m, (∃ y, Mem (relax n s to).h.1 y ∧ y.Id = m) ↔ m ∈ N ∧ m ∉ done.map (·.1) ∧ m ≠ n ∧ cntL N A (done.map (·.1) ++ [n]) m + r.count m = 0 := by
    simp only [relax]
    by_cases h0 : lvOf s.fr to - 1 = 0
    · rw [if_pos h0]
      have hnew : ∀ y, Mem s.h.1 y → y.Id ≠ to := fun y hy e => by
        have := ((h.rd to).1 ⟨y, hy, e⟩).2.2.2
        simp only [List.count_cons_self] at this
        omega
      have p := put_new s.h h.hp ⟨to, 0, to⟩ hnew
      refine ⟨p.1, fun y hy => ?_, fun m => ?_⟩
      · rcases (p.2.2.2 y).1 hy with rfl | hy
        · exact ⟨rfl, rfl⟩
        · exact h.th y hy
      · by_cases hm : m = to
        · subst hm
          constructor
          · intro _; exact ⟨hN, hnd, hne, by omega⟩
          · intro _; exact ⟨⟨m, 0, m⟩, (p.2.2.2 _).2 (.inl rfl), rfl⟩
        · rw [← cne m hm, ← h.rd m]
          constructor
          · rintro ⟨y, hy, e⟩
            rcases (p.2.2.2 y).1 hy with e2 | hy
            · rw [e2] at e; exact absurd e.symm hm
            · exact ⟨y, hy, e⟩
          · rintro ⟨y, hy, e⟩; exact ⟨y, (p.2.2.2 y).2 (.inr hy), e⟩
    · rw [if_neg h0]
      refine ⟨h.hp, h.th, fun m => ?_⟩
      rw [h.rd m]
      by_cases hm : m = to
      · subst hm
        simp only [List.count_cons_self]
        constructor
        · rintro ⟨_, _, _, h4⟩; omega
        · rintro ⟨_, _, _, h4⟩; omega
      · rw [cne m hm]
  refine ⟨hp.1, hp.2.1, hp.2.2, fun m hm => ?_, ?_, fun m hm => ?_⟩
  · simp only [relax]; rw [lvOf_put]
    by_cases e : m = to
    · subst e; rw [if_pos rfl]; omega
    · rw [if_neg e, h.fr m hm, cne m e]
  · simp only [relax]; rw [lvOf_put, if_neg (fun e => hne e.symm)]; exact h.ln
  · simp only [relax]; rw [lvOf_put, h.ln]
    have hl := h.lv m hm
    by_cases e : m = to
    · subst e
      rw [if_pos rfl]
      have hs : levR A (done ++ [(n, l)]) m = max (levR A done m) (l + 1) := by rw [levR_step N A done n l m hn hm, if_pos hto]
      have h2 : max (lvOf s.lv m) (l + 1) = max (levR A done m) (l + 1) := by rcases hl.2.2.2 with e | e <;> rw [e] <;> omega
      rw [hs, h2]
      exact ⟨fun _ => Int.le_refl _, fun _ => rfl, by omega, .inr rfl⟩
    · rw [if_neg e]
      exact ⟨fun hr => hl.1 (List.mem_cons_of_mem _ hr), fun hr => hl.2.1 (fun hc => (List.mem_cons.1 hc).elim e hr), hl.2.2.1, hl.2.2.2⟩
theorem relax_all {N : List Int} {A : List Arc} {done : List (Int × Int)} {n l : Int} (hn : n ∈ N) (hx : n ∉ tosL N A n) (hnd : ∀ m ∈ tosL N A n, m ∉ done.map (·.1)) : ∀ (r : List Int) (s : OrS), (∀ m ∈ r, m ∈ tosL N A n) → Mid N A done n l r s → Mid N A done n l [] (r.foldl (relax n) s)
  | [], s, _, h => h
  | to :: r, s, hr, h => relax_all hn hx hnd r _ (fun m hm => hr m (List.mem_cons_of_mem _ hm)) (relax_mid hn hx (hr to (by simp)) (hnd to (hr to (by simp))) h)

theorem free_mono {N : List Int} {A : List Arc} {told told' : List Int} {n : Int} (h : freeL N A told n = true) (hs : ∀ x ∈ told, x ∈ told') : freeL N A told' n = true :=
  free_iff.2 fun a ha h1 h2 => hs _ (free_iff.1 h a ha h1 h2)
theorem may_iff {N : List Int} {A : List Arc} {told : List Int} {n : Int} : may N A told n = true ↔ n ∉ told ∧ freeL N A told n = true := by
  simp [may]
theorem find_rise {N : List Int} (hN : N.Pairwise (· < ·)) {p : Int → Bool} {n : Int} (hn : n ∈ N) (hp : p n = true) (hm : ∀ m ∈ N, p m = true → n ≤ m) : N.find? p = some n := by
  induction N with
  | nil => simp at hn
  | cons x N ih =>
    rw [List.find?_cons]
    by_cases hx : p x = true
    · rw [hx]
      have h1 := hm x (by simp) hx
      rcases List.mem_cons.1 hn with e | e
      · rw [e]
      · have := (List.pairwise_cons.1 hN).1 n e
        omega
    · simp only [Bool.not_eq_true] at hx
      rw [hx]
      rcases List.mem_cons.1 hn with e | e
      · rw [e] at hp; rw [hp] at hx; cases hx
      · exact ih (List.pairwise_cons.1 hN).2 e fun m hm' => hm m (List.mem_cons_of_mem _ hm')
/-- A node is taken. -/
theorem ord_step {N : List Int} {A : List Arc} {done : List (Int × Int)} {s : OrS} (hN : N.Pairwise (· < ·)) (h : GInv N A done s) (hne : s.h.1 ≠ []) : ∃ n, (popF s.h).2 = (n, true) ∧ n ∈ N ∧ avail N A (done.map (·.1)) = some n ∧ n ∉ tosL N A n ∧ (∀ m ∈ tosL N A n, m ∉ done.map (·.1)) ∧ n ∉ done.map (·.1) ∧ freeL N A (done.map (·.1)) n = true ∧
    Mid N A done n (lvOf s.lv n) (tosL N A n) { s with h := (popF s.h).1 } := by
  obtain ⟨p1, p2, p3, p4, p5, p6⟩ := pop_ok s.h h.hp hne
  generalize hr : gt s.h.1 0 = root at *
  obtain ⟨m1, m2⟩ := (h.rd root.Id).1 ⟨root, p4, rfl⟩
  obtain ⟨m3, m4⟩ := may_iff.1 m2
  have hx : root.Id ∉ tosL N A root.Id := fun hm => by
    obtain ⟨_, _, a, ha, h1, h2⟩ := mem_tosL.1 hm
    exact m3 (by have := free_iff.1 m4 a ha h2 (h1 ▸ m1); rwa [h1] at this)
  have hnd : ∀ m ∈ tosL N A root.Id, m ∉ done.map (·.1) := fun m hm hd => by
    obtain ⟨_, _, a, ha, h1, h2⟩ := mem_tosL.1 hm
    exact m3 (by have := free_iff.1 (h.pre m hd) a ha h2 (h1 ▸ m1); rwa [h1] at this)
  refine ⟨root.Id, p2, m1, find_rise hN m1 m2 fun m hm hp => ?_, hx, hnd, m3, m4, ⟨p1, fun y hy => h.th y ((p6 y).1 hy).1, fun m => ?_, fun m hm => ?_, rfl, fun m hm => ?_⟩⟩
  · obtain ⟨y, hy, e⟩ := (h.rd m).2 ⟨hm, hp⟩
    have := p5 y hy
    obtain ⟨k1, k2⟩ := h.th y hy
    obtain ⟨k3, k4⟩ := h.th root p4
    simp [le', Hp.ahead, k1, k2, k3, k4, e] at this
    omega
  · have e1 : (∃ y, Mem (popF s.h).1.1 y ∧ y.Id = m) ↔ (∃ y, Mem s.h.1 y ∧ y.Id = m) ∧ m ≠ root.Id := by
      constructor
      · rintro ⟨y, hy, e⟩
        obtain ⟨q1, q2⟩ := (p6 y).1 hy
        refine ⟨⟨y, q1, e⟩, fun e2 => q2 ?_⟩
        obtain ⟨k1, k2⟩ := h.th y q1
        obtain ⟨k3, k4⟩ := h.th root p4
        cases y; cases root
        simp only at *
        subst k1; subst k3; subst k2; subst k4
        rw [e, e2]
      · rintro ⟨⟨y, hy, e⟩, hne⟩
        exact ⟨y, (p6 y).2 ⟨hy, fun e2 => hne (by rw [← e, e2])⟩, e⟩
    show (∃ y, Mem (popF s.h).1.1 y ∧ y.Id = m) ↔ _
    rw [e1, h.rd m, may_iff, ← cnt_count N A _ _ _ m3]
    constructor
    · rintro ⟨⟨q1, q2, q3⟩, q4⟩; exact ⟨q1, q2, q4, (cnt_zero q1).2 q3⟩
    · rintro ⟨q1, q2, q3, q4⟩; exact ⟨⟨q1, q2, (cnt_zero q1).1 q4⟩, q3⟩
  · rw [← cnt_count N A _ _ _ m3]; exact h.fr m hm
  · refine ⟨fun _ => ?_, fun hr => ?_, ?_, .inl (h.lv m hm)⟩
    · show lvOf s.lv m ≤ _
      rw [h.lv m hm]; omega
    · rw [levR_step N A done _ _ m m1 hm, if_neg hr]; exact h.lv m hm
    · show _ ≤ lvOf s.lv m
      rw [h.lv m hm]; exact Int.le_refl _
theorem ord_fin {N : List Int} {A : List Arc} {done : List (Int × Int)} {n l : Int} {s : OrS} {s0 : OrS} (h0 : GInv N A done s0) (hn : n ∈ N) (hav : avail N A (done.map (·.1)) = some n) (hnd : n ∉ done.map (·.1)) (hf : freeL N A (done.map (·.1)) n = true) (hl : l = levR A done n) (h : Mid N A done n l [] s) : GInv N A (done ++ [(n, l)]) s := by
  have em : (done ++ [(n, l)]).map (·.1) = done.map (·.1) ++ [n] := by simp
  refine ⟨h.hp, h.th, fun m => ?_, fun m hm => ?_, fun m hm => (h.lv m hm).2.1 (by simp), ?_, fun m hm => ?_, fun m hm => ?_, ?_, ?_⟩
  · rw [h.rd m, em, may_iff]
    simp only [List.count_nil, Nat.add_zero, List.mem_append, List.mem_singleton, not_or]
    constructor
    · rintro ⟨q1, q2, q3, q4⟩; exact ⟨q1, ⟨q2, q3⟩, (cnt_zero q1).1 q4⟩
    · rintro ⟨q1, ⟨q2, q3⟩, q4⟩; exact ⟨q1, q2, q3, (cnt_zero q1).2 q4⟩
  · rw [h.fr m hm, em]; simp
  · rw [em, List.nodup_append]
    exact ⟨h0.nd, by simp, fun a ha b hb e => hnd (by rw [List.mem_singleton] at hb; rw [← hb, ← e]; exact ha)⟩
  · rw [em] at hm
    rcases List.mem_append.1 hm with e | e
    · exact h0.sub m e
    · rw [List.mem_singleton.1 e]; exact hn
  · rw [em] at hm ⊢
    have hs : ∀ x ∈ done.map (·.1), x ∈ done.map (·.1) ++ [n] := fun x hx => List.mem_append_left _ hx
    rcases List.mem_append.1 hm with e | e
    · exact free_mono (h0.pre m e) hs
    · rw [List.mem_singleton.1 e]; exact free_mono hf hs
  · rw [em]; exact gseq_snoc h0.seq hav
  · rw [em, doneOf_snoc, ← h0.dn, ← hl]
theorem ord_end {N : List Int} {A : List Arc} {done : List (Int × Int)} {s : OrS} (h : GInv N A done s) (hn : s.h.1 = []) : avail N A (done.map (·.1)) = none ∧ ∀ m ∈ N, (lvOf s.fr m = 0 ↔ m ∈ done.map (·.1)) ∧ 0 ≤ lvOf s.fr m := by
  have hno : ∀ m ∈ N, may N A (done.map (·.1)) m ≠ true := fun m hm e => by
    obtain ⟨y, ⟨j, hj, _⟩, _⟩ := (h.rd m).2 ⟨hm, e⟩
    rw [hn] at hj; simp at hj
  refine ⟨List.find?_eq_none.2 hno, fun m hm => ?_⟩
  rw [h.fr m hm]
  refine ⟨⟨fun e => ?_, fun hd => ?_⟩, by omega⟩
  · have hf := (cnt_zero (A := A) (told := done.map (·.1)) hm).1 (by omega)
    by_cases hd : m ∈ done.map (·.1)
    · exact hd
    · exact absurd (may_iff.2 ⟨hd, hf⟩) (hno m hm)
  · have := (cnt_zero hm).2 (h.pre m hd)
    omega
theorem nodup_len : ∀ {a N : List Int}, a.Nodup → (∀ x ∈ a, x ∈ N) → a.length ≤ N.length
  | [], _, _, _ => Nat.zero_le _
  | x :: a, N, h, hs => by
    have hx := hs x (by simp)
    obtain ⟨h1, h2⟩ := List.nodup_cons.1 h
    have := nodup_len (N := N.erase x) h2 fun y hy => (List.mem_erase_of_ne (fun e => h1 (by rw [← e]; exact hy))).2 (hs y (List.mem_cons_of_mem _ hy))
    rw [List.length_erase_of_mem hx] at this
    have := List.length_pos_of_mem hx
    simp; omega
theorem ginv_len {N : List Int} {A : List Arc} {done : List (Int × Int)} {s : OrS} (h : GInv N A done s) : done.length ≤ N.length := by
  have := nodup_len h.nd h.sub; simpa using this

/-! the begin -/
def ofFr (N : List Int) (A : List Arc) : List (Int × Int) := A.foldl (fun m a => if val N a = true then mput m a.To (lvOf m a.To + 1) else m) []
def toGet (m : List (Int × List Int)) (n : Int) : List Int := (mget m n).getD []
def ofTo (N : List Int) (A : List Arc) : List (Int × List Int) := A.foldl (fun m a => if val N a = true then mput m a.From (toGet m a.From ++ [a.To]) else m) []
theorem toGet_put (m : List (Int × List Int)) (k : Int) (v : List Int) (j : Int) : toGet (mput m k v) j = if j = k then v else toGet m j := by
  unfold toGet; rw [mget_put]; split <;> rfl
theorem fr_fold (N : List Int) (n : Int) : ∀ (A : List Arc) (m : List (Int × Int)), lvOf (A.foldl (fun m a => if val N a = true then mput m a.To (lvOf m a.To + 1) else m) m) n = lvOf m n + ((A.filter fun a => val N a && decide (a.To = n)).length : Int)
  | [], m => by simp
  | a :: A, m => by
    simp only [List.foldl_cons, List.filter_cons]
    rw [fr_fold N n A]
    by_cases hv : val N a = true
    · rw [if_pos hv, lvOf_put]
      by_cases e : a.To = n
      · simp only [hv, e, decide_true, Bool.true_and, if_true, List.length_cons]; omega
      · have : ¬ n = a.To := fun h => e h.symm
        simp only [hv, e, this, decide_false, Bool.and_false, if_false, Bool.false_eq_true]
    · simp only [hv, Bool.false_and, Bool.false_eq_true, if_false]
theorem ofFr_cnt (N : List Int) (A : List Arc) (n : Int) : lvOf (ofFr N A) n = cntL N A [] n := by
  rw [ofFr, fr_fold]; simp [lvOf, mget, cntL]
theorem to_fold (N : List Int) (n : Int) : ∀ (A : List Arc) (m : List (Int × List Int)), toGet (A.foldl (fun m a => if val N a = true then mput m a.From (toGet m a.From ++ [a.To]) else m) m) n = toGet m n ++ tosL N A n
  | [], m => by simp [tosL]
  | a :: A, m => by
    simp only [List.foldl_cons, tosL, List.filter_cons]
    rw [to_fold N n A]
    by_cases hv : val N a = true
    · rw [if_pos hv, toGet_put]
      by_cases e : a.From = n
      · simp only [hv, e, decide_true, Bool.true_and, if_true, List.map_cons, tosL, List.append_assoc, List.singleton_append]
      · have : ¬ n = a.From := fun h => e h.symm
        simp only [hv, e, this, decide_false, Bool.and_false, if_false, Bool.false_eq_true, tosL]
    · simp only [hv, Bool.false_and, Bool.false_eq_true, if_false, tosL]
theorem ofTo_get (N : List Int) (A : List Arc) (n : Int) : toGet (ofTo N A) n = tosL N A n := by
  rw [ofTo, to_fold]; simp [toGet, mget]
theorem mem_nil (y : Thg) : ¬ Mem [] y := fun ⟨j, h, _⟩ => by simp at h
structure Ini (fr : List (Int × Int)) (done : List Int) (h : HpS) : Prop where
  hp : HpOk h
  th : ∀ y, Mem h.1 y → y.Key = 0 ∧ y.Seq = y.Id
  rd : ∀ n, (∃ y, Mem h.1 y ∧ y.Id = n) ↔ n ∈ done ∧ lvOf fr n = 0
  len : h.1.length ≤ done.length
theorem ini_nil (fr : List (Int × Int)) : Ini fr [] ([], []) := ⟨hp_new, fun y hy => absurd hy (mem_nil y), fun n => by
  constructor
  · rintro ⟨y, hy, _⟩; exact absurd hy (mem_nil y)
  · rintro ⟨h, _⟩; simp at h, Nat.le_refl _⟩
theorem ini_step {fr : List (Int × Int)} {done : List Int} {h : HpS} {n : Int} (H : Ini fr done h) (hn : n ∉ done) : Ini fr (done ++ [n]) (if lvOf fr n = 0 then (putF h ⟨n, 0, n⟩).1 else h) := by
  by_cases h0 : lvOf fr n = 0
  · rw [if_pos h0]
    have hnew : ∀ y, Mem h.1 y → y.Id ≠ n := fun y hy e => hn ((H.rd n).1 ⟨y, hy, e⟩).1
    have p := put_new h H.hp ⟨n, 0, n⟩ hnew
    refine ⟨p.1, fun y hy => ?_, fun m => ?_, by have := H.len; simp; omega⟩
    · rcases (p.2.2.2 y).1 hy with rfl | hy
      · exact ⟨rfl, rfl⟩
      · exact H.th y hy
    · constructor
      · rintro ⟨y, hy, e⟩
        rcases (p.2.2.2 y).1 hy with e2 | hy
        · rw [e2] at e; simp only at e; rw [← e]; exact ⟨by simp, h0⟩
        · obtain ⟨k1, k2⟩ := (H.rd m).1 ⟨y, hy, e⟩
          exact ⟨List.mem_append_left _ k1, k2⟩
      · rintro ⟨k1, k2⟩
        rcases List.mem_append.1 k1 with k | k
        · obtain ⟨y, hy, e⟩ := (H.rd m).2 ⟨k, k2⟩
          exact ⟨y, (p.2.2.2 y).2 (.inr hy), e⟩
        · exact ⟨⟨n, 0, n⟩, (p.2.2.2 _).2 (.inl rfl), (List.mem_singleton.1 k).symm⟩
  · rw [if_neg h0]
    refine ⟨H.hp, H.th, fun m => ?_, by have := H.len; simp; omega⟩
    rw [H.rd m]
    constructor
    · rintro ⟨k1, k2⟩; exact ⟨List.mem_append_left _ k1, k2⟩
    · rintro ⟨k1, k2⟩
      rcases List.mem_append.1 k1 with k | k
      · exact ⟨k, k2⟩
      · rw [List.mem_singleton.1 k] at k2; exact absurd k2 h0
theorem ginv_begin {N : List Int} {A : List Arc} {h : HpS} (H : Ini (ofFr N A) N h) : GInv N A [] ⟨h, ofFr N A, []⟩ := by
  refine ⟨H.hp, H.th, fun n => ?_, fun n hn => ofFr_cnt N A n, fun n hn => rfl, by simp, by simp, by simp, gseq_nil N A, rfl⟩
  show (∃ y, Mem h.1 y ∧ y.Id = n) ↔ _
  rw [H.rd n, may_iff]
  constructor
  · rintro ⟨h1, h2⟩; exact ⟨h1, by simp, (cnt_zero h1).1 (by rw [ofFr_cnt] at h2; simpa using h2)⟩
  · rintro ⟨h1, _, h2⟩; exact ⟨h1, by rw [ofFr_cnt]; have := (cnt_zero (A := A) h1).2 h2; simpa using this⟩

/-! what is reached -/
inductive Rch (N : List Int) (A : List Arc) (F : List Int) : Int → Prop
  | base {x : Int} (h : x ∈ F) (hN : x ∈ N) : Rch N A F x
  | step {x m : Int} (h : Rch N A F x) (hm : m ∈ tosL N A x) : Rch N A F m
theorem Rch.node {N : List Int} {A : List Arc} {F : List Int} {x : Int} (h : Rch N A F x) : x ∈ N := by
  cases h with
  | base h hN => exact hN
  | step h hm => exact (mem_tosL.1 hm).2.1
/-- What holds while it is gone through: what is told, what waits. -/
structure RInv (N : List Int) (A : List Arc) (F out wait : List Int) : Prop where
  nd : out.Nodup
  rc : ∀ x ∈ out, Rch N A F x
  wt : ∀ x ∈ wait, x ∈ N → Rch N A F x
  cl : ∀ x ∈ out, ∀ m ∈ tosL N A x, m ∈ out ∨ m ∈ wait
  fr : ∀ x ∈ F, x ∈ N → x ∈ out ∨ x ∈ wait
theorem tosL_len (N : List Int) (A : List Arc) (n : Int) : (tosL N A n).length ≤ A.length := by
  simp only [tosL, List.length_map]; exact List.length_filter_le _ _
/-! the document's way: rounds -/
structure ROut (N : List Int) (A : List Arc) (F out : List Int) : Prop where
  nd : out.Nodup
  rc : ∀ x ∈ out, Rch N A F x
  fr : ∀ x ∈ F, x ∈ N → x ∈ out
end Go.Proofs.Ytnjpfoblmomnlaa.Sx.Gr
