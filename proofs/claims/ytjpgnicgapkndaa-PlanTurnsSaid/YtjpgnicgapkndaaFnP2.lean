/- Package 07 of the document: ways, crossings. No conditions: a kit of our own. -/
import Derived.Test.YtjpgnicgapkndaaFnP1
import Derived.Test.YtjpgnicgapkndaaFnI1
namespace Go.Proofs.Ytjpgnicgapkndaa.Sx
open Go Go.RowKit
set_option linter.unusedVariables false
set_option linter.unusedSimpArgs false

/-! ### clip, near -/
def clipI (n a b : Int) : Int := if n < a then a else if b < n then b else n
theorem det_r02_Clip (n a b : Int) : Det Try.prog 54 [en n, en a, en b] [] (en (clipI n a b)) [] := by
  refine det_finF mixed0 knows_nil ok_r02_Clip 1 (by simp) ?_
  simp [ic_r02_Clip, rs_r02_Clip, clipI]
  grind
def cClip2 : Ctr := C3 (fun n a b : Int => True) fun n a b => en (clipI n a b)
theorem known_r02_Clip : Known Try.prog 54 cClip2 := known_C3 (fun n a b _ => det_r02_Clip n a b) fun n a b => flat_int _ _
theorem det_r07_near (p : Pt) : Det Try.prog 38 [en p] [] (en (nearP p)) [] := by
  refine det_finF mixed0 (knows_cons known_r02_Clip knows_nil) ok_r07_near 2 (by simp) ?_
  simp [ic_r07_near, rs_r07_near, cClip2, nearP, clipI, vcLoose, heapsOf]
  omega
theorem known_r07_near : Known Try.prog 38 cNear := known_V1 (fun p _ => det_r07_near p) fun p _ => closed_en _
/-! ### a way, step by step -/
def towI (n t : Int) : Int := if n < t then n + 1 else if t < n then n - 1 else n
theorem det_r07_toward (n t : Int) (hn : -1000 ≤ n ∧ n ≤ 1000) : Det Try.prog 39 [en n, en t] [] (en (towI n t)) [] := by
  refine det_finF mixed0 knows_nil ok_r07_toward 1 (by simp) ?_
  simp [ic_r07_toward, rs_r07_toward, towI]
  grind
def cToward : Ctr := C2 (fun n t : Int => -1000 ≤ n ∧ n ≤ 1000) fun n t => en (towI n t)
theorem known_r07_toward : Known Try.prog 39 cToward := known_C2 (fun n t h => det_r07_toward n t h) fun n t => flat_int _ _
def stepP (how : Int) (a b : Pt) : Pt := if a.Y = b.Y ∨ (how ≠ 1 ∧ a.X ≠ b.X) then ⟨towI a.X b.X, a.Y⟩ else ⟨a.X, towI a.Y b.Y⟩
def distP (a b : Pt) : Nat := (a.X - b.X).natAbs + (a.Y - b.Y).natAbs
def wayT (how : Int) : Nat → Pt → Pt → List Pt
  | 0, _, _ => []
  | n + 1, a, b => if a = b then [] else stepP how a b :: wayT how n (stepP how a b) b
def wayL (how : Int) (a b : Pt) : List Pt := a :: wayT how (distP a b) a b
def inW (p : Pt) : Prop := (-1000 ≤ p.X ∧ p.X ≤ 1000) ∧ -1000 ≤ p.Y ∧ p.Y ≤ 1000
theorem inW_near (p : Pt) : inW (nearP p) := by simp only [inW, nearP]; omega
theorem step_dist {how : Int} {a b : Pt} (h : ¬ a = b) : distP (stepP how a b) b + 1 = distP a b := by
  obtain ⟨ax, ay⟩ := a
  obtain ⟨bx, bY⟩ := b
  simp only [Pt.mk.injEq] at h
  simp only [distP, stepP, towI]
  grind
theorem step_in {how : Int} {a b : Pt} (ha : inW a) (hb : inW b) : inW (stepP how a b) := by
  obtain ⟨ax, ay⟩ := a
  obtain ⟨bx, bY⟩ := b
  simp only [inW, stepP, towI] at *
  grind
theorem dist_le {a b : Pt} (ha : inW a) (hb : inW b) : distP a b ≤ 4000 := by
  simp only [inW, distP] at *; omega
theorem dist_0 {a b : Pt} (h : distP a b = 0) : a = b := by
  obtain ⟨ax, ay⟩ := a
  obtain ⟨bx, bY⟩ := b
  simp only [distP, Pt.mk.injEq] at *; omega
theorem wayT_len (how : Int) : ∀ (n : Nat) (a b : Pt), (wayT how n a b).length ≤ n
  | 0, _, _ => Nat.le_refl _
  | n + 1, a, b => by
    rw [wayT]; split
    · simp
    · have := wayT_len how n (stepP how a b) b; simp; omega
theorem wayL_len {how : Int} {a b : Pt} (ha : inW a) (hb : inW b) : (wayL how a b).length ≤ 4001 := by
  have := wayT_len how (distP a b) a b
  have := dist_le ha hb
  simp [wayL]; omega
theorem blk_iff {a b c : Pt} : hasP (blockP a b) c = true ↔ (min a.X b.X ≤ c.X ∧ c.X ≤ max a.X b.X) ∧ min a.Y b.Y ≤ c.Y ∧ c.Y ≤ max a.Y b.Y := by
  simp only [hasP, Bool.and_eq_true, decide_eq_true_eq]
  simp only [blockP, and_assoc]
theorem mem_way (how : Int) (c : Pt) : ∀ (n : Nat) (a b : Pt), n = distP a b → (c ∈ a :: wayT how n a b ↔ hasP (blockP a (bendP a b how)) c = true ∨ hasP (blockP (bendP a b how) b) c = true)
  | 0, a, b, hn => by
    have := dist_0 hn.symm
    subst this
    obtain ⟨ax, ay⟩ := a
    obtain ⟨cx, cy⟩ := c
    rw [blk_iff, blk_iff]
    simp only [wayT, List.mem_singleton, Pt.mk.injEq, bendP]
    split <;> simp only [] <;> omega
  | n + 1, a, b, hn => by
    have hne : ¬ a = b := fun e => by subst e; simp [distP] at hn
    have hs := step_dist (how := how) hne
    have ih := mem_way how c n (stepP how a b) b (by omega)
    rw [wayT, if_neg hne, List.mem_cons, ih, blk_iff, blk_iff, blk_iff, blk_iff]
    clear ih hs hn
    obtain ⟨ax, ay⟩ := a
    obtain ⟨bx, bY⟩ := b
    obtain ⟨cx, cy⟩ := c
    simp only [Pt.mk.injEq] at hne
    by_cases h1 : how = 1
    · by_cases h2 : ay = bY
      · simp only [stepP, bendP, towI, Pt.mk.injEq, h1, h2, if_true, true_or]
        split <;> omega
      · simp only [stepP, bendP, towI, Pt.mk.injEq, h1, h2, if_true, ne_eq, not_true, false_and, or_false, if_false]
        split <;> omega
    · by_cases h2 : ax = bx
      · have h3 : ¬ ay = bY := fun e => hne ⟨h2, e⟩
        simp only [stepP, bendP, towI, Pt.mk.injEq, h1, h2, h3, if_true, ne_eq, not_true, not_false_eq_true, and_false, or_false, false_or, if_false]
        split <;> omega
      · simp only [stepP, bendP, towI, Pt.mk.injEq, h1, h2, if_true, ne_eq, not_true, not_false_eq_true, and_true, true_and, or_true, if_false]
        split <;> omega
theorem meets_iff {x y : Ais} (hx : x.Low.X ≤ x.High.X ∧ x.Low.Y ≤ x.High.Y ∨ True) : meets x y = true ↔ ∃ c, hasP x c = true ∧ hasP y c = true := by
  rw [← meets_has, Bool.and_eq_true]
  constructor
  · intro h; exact ⟨_, h.1, h.2⟩
  · rintro ⟨c, h1, h2⟩
    simp only [hasP, Bool.and_eq_true, decide_eq_true_eq] at *
    omega
theorem way_through (how : Int) (p q : Pt) (x : Ais) : (wayL how (nearP p) (nearP q)).any (hasP x) = through p q how x := by
  rw [Bool.eq_iff_iff, List.any_eq_true, through, Bool.or_eq_true, meets_iff (.inr trivial), meets_iff (.inr trivial)]
  have key := fun c => mem_way how c _ (nearP p) (nearP q) rfl
  constructor
  · rintro ⟨c, h1, h2⟩
    rcases (key c).1 h1 with h | h
    · exact .inl ⟨c, h2, h⟩
    · exact .inr ⟨c, h2, h⟩
  · rintro (⟨c, h1, h2⟩ | ⟨c, h1, h2⟩)
    · exact ⟨c, (key c).2 (.inl h2), h1⟩
    · exact ⟨c, (key c).2 (.inr h2), h1⟩
theorem det_r07_Route (p q : Pt) (how : Int) : Det Try.prog 17 [en p, en q, en how] [] (en (wayL how (nearP p) (nearP q))) [] := by
  refine det_finF mixed0 (knows_cons known_r07_near (knows_cons known_r07_toward knows_nil)) ok_r07_Route 2 (by simp) ?_
  simp [ic_r07_Route, rs_r07_Route, cNear, vcLoose, heapsOf]
  have ha := inW_near p
  have hb := inW_near q
  generalize nearP p = P at *
  generalize nearP q = Q at *
  refine LoopC.genR (fun s : List Pt × Pt => ⟨[(2, .int .i64 how), (7, .ptr 0 0 0), (8, .ptr 1 0 0), (9, .sl 2 0 s.1.length)], [.rows 2 [Cel.c s.2], .rows 2 [Cel.c Q], .rows 2 (s.1.map Cel.c)]⟩) (fun s => inW s.2 ∧ wayL how P Q = s.1 ++ wayT how (distP s.2 Q) s.2 Q ∧ s.1.length + distP s.2 Q ≤ 4001) (fun s => distP s.2 Q) ([P], P) [2, 3, 4] ?_ ⟨ha, by simp [wayL], by have := dist_le ha hb; simp; omega⟩ ?_
  · simp [atR]
  rintro ⟨o, a⟩ ⟨h1, h2, h3⟩
  simp only at h1 h2 h3
  by_cases he : a = Q
  · subst he
    have e0 : distP a a = 0 := by simp [distP]
    rw [e0, wayT, List.append_nil] at h2
    simp [h2]
  · have hs := step_dist (how := how) he
    have hi := step_in (how := how) h1 hb
    rw [← hs, wayT, if_neg he] at h2
    have hc : stepP how a Q = if a.Y = Q.Y ∨ (how ≠ 1 ∧ a.X ≠ Q.X) then ⟨towI a.X Q.X, a.Y⟩ else ⟨a.X, towI a.Y Q.Y⟩ := rfl
    have ht1 := h1.1
    have ht2 := h1.2
    simp [cToward, ht1, ht2]
    refine ⟨fun _ => ⟨fun hk => ?_, fun h5 h6 => ?_⟩, fun h5 h6 => ?_⟩
    · have e : stepP how a Q = ⟨towI a.X Q.X, a.Y⟩ := by rw [hc, if_pos hk]
      rw [e] at h2 hs hi
      exact ⟨by omega, o ++ [⟨towI a.X Q.X, a.Y⟩], ⟨towI a.X Q.X, a.Y⟩, ⟨[0, 1, 3], by simp [atR]⟩, ⟨hi, by rw [h2]; simp, by simp; omega⟩, by omega⟩
    · have e : stepP how a Q = ⟨a.X, towI a.Y Q.Y⟩ := by
        rw [hc, if_neg]
        rintro (h | h)
        · exact h5 h
        · exact h.2 (h6 h.1)
      rw [e] at h2 hs hi
      exact ⟨by omega, o ++ [⟨a.X, towI a.Y Q.Y⟩], ⟨a.X, towI a.Y Q.Y⟩, ⟨[0, 1, 3], by simp [atR]⟩, ⟨hi, by rw [h2]; simp, by simp; omega⟩, by omega⟩
    · exact absurd (ext_Pt.2 ⟨h5, h6⟩) he
theorem known_r07_Route : Known Try.prog 17 (V3 (fun (p q : Pt) (how : Int) => True) fun p q how => en (wayL how (nearP p) (nearP q))) := known_V3 (fun p q how _ => det_r07_Route p q how) fun p q how _ => closed_en _
/-! ### sets, crossings -/
attribute [local irreducible] insG insL
theorem det_r07_put (l : List Int) (n : Int) (hl : l.length ≤ 536870912) : Det Try.prog 43 [en l, en n] [] (en (insL l n)) [] := by
  refine det_finF mixed0 knows_nil ok_r07_put 2 (by simp) ?_
  have hl' : l.length ≤ 9223372036854775807 := by omega
  simp [ic_r07_put, rs_r07_put]
  refine LoopC.scanR (0 : Int) l (fun k (b : List Int × Bool) => ⟨[(0, .view (l.map Cel.c)), (1, .int .i64 n), (5, bs 0 (b.1.map Cel.c)), (6, .bool b.2), (7, .int .i64 k)], [bob 1 (b.1.map Cel.c)]⟩) (fun k b r => insL l n = b.1 ++ insG n b.2 r ∧ b.1.length ≤ k + b.2.toNat) ([], false) [0] (by simp [atR]) ⟨by simp [show insL l n = insG n false l by unfold insL; rfl], by simp⟩ (fun k o q b hk hok hdk ⟨hG2, hb⟩ => ?_) fun b ⟨hG2, hb⟩ => ?_
  · obtain ⟨nx, d⟩ := b
    simp only at hG2 hb
    rw [insG_cons] at hG2
    by_cases h1 : o = n
    · subst h1
      have h2 : o ≤ o := Int.le_refl _
      cases d
      · simp at hG2 hb
        simp [hk, hok, h2]
        exact ⟨by omega, by omega, nx ++ [o], .inr ⟨⟨[1], by simp [atR]⟩, by simp [hG2], by simp; omega⟩⟩
      · simp at hG2 hb
        simp [hk, hok, h2]
        exact ⟨by omega, nx, .inr ⟨⟨[0], by simp [atR]⟩, by simp [hG2], by omega⟩⟩
    · by_cases h2 : n ≤ o
      · cases d
        · simp [h1, h2] at hG2 hb
          simp [hk, hok, h1, h2]
          exact ⟨by omega, by omega, by omega, nx ++ [n, o], .inr ⟨⟨[2], by simp [atR]⟩, by simp [hG2], by simp; omega⟩⟩
        · simp [h1, h2] at hG2 hb
          simp [hk, hok, h1, h2]
          exact ⟨by omega, by omega, nx ++ [o], .inr ⟨⟨[1], by simp [atR]⟩, by simp [hG2], by simp; omega⟩⟩
      · simp [h1, h2] at hG2
        simp [hk, hok, h1, h2]
        cases d <;> simp at hb hG2 ⊢
        · exact ⟨by omega, by omega, nx ++ [o], .inl ⟨⟨[1], by simp [atR]⟩, by simp [hG2], by simp; omega⟩⟩
        · exact ⟨by omega, by omega, nx ++ [o], .inr ⟨⟨[1], by simp [atR]⟩, by simp [hG2], by simp; omega⟩⟩
  · obtain ⟨nx, d⟩ := b
    simp only at hG2 hb
    rw [insG_nil] at hG2
    cases d
    · simp at hG2 hb
      simp
      refine ⟨by omega, ?_, by rw [hG2]; simp⟩
      rintro row (⟨a, _, rfl⟩ | rfl) z hz <;> simp at hz <;> subst hz <;> simp [frp]
    · simp at hG2 hb
      simp [hG2]
def cPut7 : Ctr := V2 (fun (l : List Int) (n : Int) => l.length ≤ 536870912) fun l n => en (insL l n)
theorem known_r07_put : Known Try.prog 43 cPut7 := known_V2 (fun l n h => det_r07_put l n h) fun l n h => closed_en _
def wayI (W : List Pt) (l : List Ais) : List Int := (l.filter fun x => W.any (hasP x)).map (·.ID)
theorem wayI_nil (W : List Pt) : wayI W [] = [] := rfl
theorem wayI_cons (W : List Pt) (a : Ais) (r : List Ais) : wayI W (a :: r) = (if W.any (hasP a) then [a.ID] else []) ++ wayI W r := by
  simp only [wayI, List.filter_cons]; split <;> simp
theorem insL_len (l : List Int) (n : Int) : (insL l n).length ≤ l.length + 1 := by
  have := insG_len n false l
  rw [show insL l n = insG n false l by unfold insL; rfl]; exact this
theorem cross_way (l : List Ais) (p q : Pt) (how : Int) : (wayI (wayL how (nearP p) (nearP q)) l).foldl insL [] = crossL l p q how := by
  rw [fold_set]
  have e : wayI (wayL how (nearP p) (nearP q)) l = crossI l p q how := by
    simp only [wayI, crossI, way_through]
  rw [e]
  exact rise_ext (rise_setL _) (rise_comp (sorted_le _)) fun x => by rw [mem_setL]; exact (mem_comp.trans mem_sorted).symm
theorem anyH (x : Ais) (W : List Pt) {k : Nat} (hk : k ≤ W.length) : W.any (hasP x) = ((W.take k).any (hasP x) || (W.drop k).any (hasP x)) := by
  conv => lhs; rw [← List.take_append_drop k W, List.any_append]
attribute [local irreducible] crossL wayL wayI hasP in
theorem det_r07_Cross (l : List Ais) (p q : Pt) (how : Int) (hl : l.length ≤ 1000) : Det Try.prog 20 [en l, en p, en q, en how] [] (en (crossL l p q how)) [] := by
  refine det_finF mixed0 (knows_cons known_r07_Route (knows_cons known_r07_Has (knows_cons known_r07_put knows_nil))) ok_r07_Cross 2 (by simp) ?_
  rw [← cross_way]
  have hW := wayL_len (how := how) (inW_near p) (inW_near q)
  simp [ic_r07_Cross, rs_r07_Cross, vcLoose, heapsOf]
  generalize wayL how (nearP p) (nearP q) = W at *
  refine LoopC.scanB Ais.zero l (fun i (o : List Int) => ⟨[(0, .view (l.map Cel.c)), (9, .view (W.map Cel.c)), (10, .view (o.map Cel.c)), (11, .int .i64 i)], []⟩) (fun i o r => (wayI W l).foldl insL [] = (wayI W r).foldl insL o ∧ o.length ≤ i) [] (by simp) (by simp) (by simp) (fun i x r o hi hx hd ⟨hG, ho⟩ => ?_) fun o ⟨hG, ho⟩ => ?_
  · rw [wayI_cons] at hG
    simp [hi, hx]
    refine LoopC.scanB Pt.zero W (fun k (t : Bool) => ⟨[(0, .view (l.map Cel.c)), (9, .view (W.map Cel.c)), (10, .view (o.map Cel.c)), (11, .int .i64 i), (12, .bool t), (13, .int .i64 k)], []⟩) (fun k t r2 => W.any (hasP x) = (t || r2.any (hasP x))) false (by simp) (by simp) (by simp) (fun k c r2 t hk hc hdk hG2 => ?_) fun t hG2 => ?_
    · cases t
      · simp only [Bool.false_or, List.any_cons] at hG2
        simp [hi, hx, hk, hc, cInside, vcLoose, heapsOf]
        refine ⟨by omega, ?_⟩
        cases hc2 : hasP x c <;> rw [hc2] at hG2
        · exact .inl ⟨rfl, by simpa using hG2⟩
        · exact .inr ⟨rfl, by simpa using hG2⟩
      · simp only [Bool.true_or] at hG2
        rw [hG2] at hG
        simp at hG
        have := insL_len o x.ID
        have ho2 : o.length ≤ 536870912 := by omega
        simp [hi, hx, hk, hc, cPut7, ho2]
        exact ⟨by omega, hG, by omega⟩
    · simp only [List.any_nil, Bool.or_false] at hG2
      rw [hG2] at hG
      have := insL_len o x.ID
      have ho2 : o.length ≤ 536870912 := by omega
      cases t
      · simp at hG
        simp [hi, hx]
        exact ⟨by omega, hG, by omega⟩
      · simp at hG
        simp [hi, hx, cPut7, ho2]
        exact ⟨by omega, hG, by omega⟩
  · rw [wayI_nil] at hG
    simp [hG]
theorem known_r07_Cross : Known Try.prog 20 (V4 (fun (l : List Ais) (p q : Pt) (how : Int) => l.length ≤ 1000) fun l p q how => en (crossL l p q how)) := known_V4 (fun l p q how h => det_r07_Cross l p q how h) fun l p q how h => closed_en _
end Go.Proofs.Ytjpgnicgapkndaa.Sx
