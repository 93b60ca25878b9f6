/- What a function does over a small heap, it does in a great one that holds the same objects under other names ('Det.frame'). No conditions: a kit of our own. -/
import Derived.Test.YteidimemlonjbaaSx18
namespace Go.Proofs.Yteidimemlonjbaa.Sx
open Go Go.RowKit
set_option linter.unusedVariables false
set_option linter.unusedSimpArgs false

/-- The great heap's names of the small heap's objects, and of the new ones behind them. -/
def names (ids : List Nat) (n k : Nat) : List Nat := ids ++ (List.range k).map (n + ·)
def byN (g : List Nat) (j i : Nat) : Prop := g[j]? = some i

/-- H: the great heap; H0: the small one; ids: their names in H; H1: what the small one comes to; H': the great one. -/
structure Frame (ids : List Nat) (H H0 H1 H' : List AObj) : Prop where
  len : H0.length = ids.length
  nodup : ∀ (i j k : Nat), ids[i]? = some k → ids[j]? = some k → i = j
  low : ∀ (j i : Nat), ids[j]? = some i → i < H.length
  obj : ∀ (j i : Nat) o', ids[j]? = some i → H0[j]? = some o' → o' ≠ .dead → ∃ o, H[i]? = some o ∧ SeenO [] (byG ids) o o'
  len1 : ids.length ≤ H1.length
  len' : H'.length = H.length + (H1.length - ids.length)
  new : ∀ (j i : Nat) o', (names ids H.length (H1.length - ids.length))[j]? = some i → H'[i]? = some o' → o' ≠ .dead → ∃ o, H1[j]? = some o ∧ SeenO [] (byN (names ids H.length (H1.length - ids.length))) o o'
  old : ∀ (i : Nat), i < H.length → (∀ j : Nat, ids[j]? ≠ some i) → H'[i]? = H[i]?

theorem names_get {ids : List Nat} {n k j i : Nat} (h : (names ids n k)[j]? = some i) : (j < ids.length ∧ ids[j]? = some i) ∨ (ids.length ≤ j ∧ j < ids.length + k ∧ i = n + (j - ids.length)) := by
  unfold names at h
  by_cases hj : j < ids.length
  · rw [List.getElem?_append_left hj] at h; exact .inl ⟨hj, h⟩
  · rw [List.getElem?_append_right (by omega)] at h
    simp only [List.getElem?_map, Option.map_eq_some_iff] at h
    obtain ⟨a, h1, h2⟩ := h
    have hlt := (List.getElem?_eq_some_iff.1 h1).1
    have hv := (List.getElem?_eq_some_iff.1 h1).2
    simp at hlt hv
    exact .inr ⟨by omega, by omega, by omega⟩

theorem Det.frame {P : Program} {f : FuncId} {ids : List Nat} {H H0 H1 H' : List AObj} {args0 args : List AV} {x0 x : AV} (hd : Det P f args0 H0 x0 H1) (hf : Frame ids H H0 H1 H')
    (ha : Each (Seen [] (byG ids)) args args0) (hx : Seen [] (byN (names ids H.length (H1.length - ids.length))) x0 x) : Det P f args H x H' := by
  obtain ⟨hc, hd⟩ := hd
  refine ⟨hc, fun E vs hH hv => ?_⟩
  let s0 : Nat → Option Loc := fun j => match H0[j]? with
    | some .dead => none
    | none => none
    | some _ => (ids[j]?).bind E.s
  have hs0 : ∀ j l, s0 j = some l → ∃ i o', ids[j]? = some i ∧ E.s i = some l ∧ H0[j]? = some o' ∧ o' ≠ .dead := fun j l hj => by
    simp only [s0] at hj
    split at hj
    · cases hj
    · cases hj
    · rename_i o' hd' e
      obtain ⟨i, h1, h2⟩ := Option.bind_eq_some_iff.1 hj
      exact ⟨i, o', h1, h2, e, fun hh => hd' hh⟩
  -- the small heap's names; what the others own is foreign
  let E0 : Env := ⟨E.w, s0, ids.length, fun b => E.x b ∨ ∃ id l, E.s id = some l ∧ l.b = b ∧ ∀ j, s0 j ≠ some l⟩
  have free0 : ∀ b, E.free b → E0.free b := fun b hb => ⟨hb.1, fun j l hj => (by
    obtain ⟨i, o', h1, h2, h3, h4⟩ := hs0 j l hj
    exact hb.2.1 i l h2), fun hx => (by
    rcases hx with hx | ⟨id, l, h1, h2, _⟩
    · exact hb.2.2 hx
    · exact hb.2.1 id l h1 h2)⟩
  have oth0 : Other [] (byG ids) E E0 := ⟨rfl, free0, fun i j hij => ⟨(List.getElem?_eq_some_iff.1 hij).1, fun l hl => by
    obtain ⟨i', o', h1, h2, _⟩ := hs0 j l hl
    simp only [byG] at hij
    rw [hij] at h1; cases h1
    exact h2⟩, .inl rfl, .inl rfl⟩
  have hH0 : HRel E0 H0 := by
    refine ⟨hf.len.symm, fun j l hj => ?_, fun j o' ho hdd => ?_, fun i j li lj hi hj e => ?_, fun j l hj hx => ?_, fun b hx => ?_⟩
    · obtain ⟨i, o', h1, h2, h3, h4⟩ := hs0 j l hj
      obtain ⟨o, h5, h6⟩ := hf.obj j i o' h1 h3 h4
      obtain ⟨o2, h7, h8⟩ := hH.has i l h2
      rw [h5] at h7; cases h7
      exact ⟨o', h3, h6.rel oth0 h4 h8⟩
    · have hlt := (List.getElem?_eq_some_iff.1 ho).1
      rw [hf.len] at hlt
      have hg : ids[j]? = some ids[j] := List.getElem?_eq_getElem hlt
      obtain ⟨o, h5, h6⟩ := hf.obj j _ o' hg ho hdd
      have hod : o ≠ .dead := by rintro rfl; cases h6; exact hdd rfl
      obtain ⟨l, hl⟩ := hH.live _ o h5 hod
      refine ⟨l, ?_⟩
      have e : s0 j = (ids[j]?).bind E.s := by simp only [s0, ho]
      show s0 j = some l
      rw [e, hg]
      exact hl
    · obtain ⟨a, _, h1, h2, _⟩ := hs0 i li hi
      obtain ⟨b, _, h3, h4, _⟩ := hs0 j lj hj
      have := hH.inj _ _ _ _ h2 h4 e
      subst this
      exact hf.nodup i j _ h1 h3
    · obtain ⟨a, _, h1, h2, _⟩ := hs0 j l hj
      rcases hx with hx | ⟨id, l', h3, h4, h5⟩
      · exact hH.apart a l h2 hx
      · have := hH.inj _ _ _ _ h3 h2 h4
        subst this
        rw [h2] at h3; cases h3
        exact h5 j hj
    · rcases hx with hx | ⟨id, l, h1, h2, _⟩
      · exact hH.xlt b hx
      · rw [← h2]; exact hH.own_lt h1
  have hv0 : VRels E0 args0 vs := ⟨by rw [hv.len, ha.1], fun i a v h1 h2 => by
    obtain ⟨b, hb⟩ := get_of_len ha.1 h1
    exact (ha.2 i b a hb h1).rel oth0 v (hv.at_ i b v hb h2)⟩
  refine (hd E0 vs hH0 hv0).mono fun e w' hr => ?_
  obtain ⟨v, E0', r, H1', he, hw, hrv, hH1, hext, hr1, hr2⟩ := hr
  subst hr1
  subst hr2
  refine ⟨v, ?_⟩
  have hnew := hf.new
  generalize hG : names ids H.length (H1'.length - ids.length) = G at *
  have hGlen : G.length = H1'.length := by rw [← hG]; simp [names]; have := hf.len1; omega
  have hGnd : ∀ (i j k : Nat), G[i]? = some k → G[j]? = some k → i = j := fun i j k h1 h2 => by
    rw [← hG] at h1 h2
    rcases names_get h1 with ⟨a1, a2⟩ | ⟨a1, a2, a3⟩ <;> rcases names_get h2 with ⟨b1, b2⟩ | ⟨b1, b2, b3⟩
    · exact hf.nodup i j k a2 b2
    · have := hf.low i k a2; omega
    · have := hf.low j k b2; omega
    · omega
  open Classical in
  let s' : Nat → Option Loc := fun i => match H'[i]? with
    | some .dead => none
    | none => none
    | some _ => if h : ∃ j : Nat, G[j]? = some i then E0'.s h.choose else E.s i
  have hs' : ∀ i l, s' i = some l → (∃ j o', G[j]? = some i ∧ E0'.s j = some l ∧ H'[i]? = some o' ∧ o' ≠ .dead) ∨ ((∀ j : Nat, G[j]? ≠ some i) ∧ E.s i = some l ∧ H'[i]? = H[i]? ∧ i < H.length) := fun i l hi => by
    simp only [s'] at hi
    split at hi
    · cases hi
    · cases hi
    · rename_i o' hd' e
      split at hi
      · rename_i hex
        exact .inl ⟨hex.choose, o', hex.choose_spec, hi, e, fun hh => hd' hh⟩
      · rename_i hex
        have hlt := hH.id_lt hi
        rw [hH.n] at hlt
        have hn : ∀ j : Nat, G[j]? ≠ some i := fun j hj => hex ⟨j, hj⟩
        refine .inr ⟨hn, hi, hf.old i hlt fun j hj => ?_, hlt⟩
        have hjl := (List.getElem?_eq_some_iff.1 hj).1
        exact hn j (by rw [← hG]; unfold names; rw [List.getElem?_append_left hjl]; exact hj)
  have foreign : ∀ i l, (∀ j : Nat, G[j]? ≠ some i) → E.s i = some l → E0.x l.b := fun i l hn hi => .inr ⟨i, l, hi, rfl, fun j hj => by
    obtain ⟨i', o', h1, h2, _⟩ := hs0 j l hj
    have := hH.inj _ _ _ _ h2 hi rfl
    subst this
    have hjl := (List.getElem?_eq_some_iff.1 h1).1
    exact hn j (by rw [← hG]; unfold names; rw [List.getElem?_append_left hjl]; exact h1)⟩
  have hx0 : E0'.x = E0.x := hext.x
  let E' : Env := ⟨E0'.w, s', H'.length, E.x⟩
  have free' : ∀ b, E0'.free b → E'.free b := fun b hb => ⟨hb.1, fun i l hi e => (by
    rcases hs' i l hi with ⟨j, o', h1, h2, _⟩ | ⟨h1, h2, _⟩
    · exact hb.2.1 j l h2 e
    · exact hb.2.2 (by rw [hx0, ← e]; exact foreign i l h1 h2)), fun hx => hb.2.2 (by rw [hx0]; exact .inl hx)⟩
  have hlen' : H.length ≤ H'.length := by rw [hf.len']; omega
  have ext : Ext H.length E E' := by
    refine ⟨hext.os, hext.tape, hext.output, hext.size, fun b hb => ?_, fun i l hi hl => ?_, hext.room, hlen', rfl, fun b hb => hext.keepx b (.inl hb)⟩
    · obtain ⟨h1, h2⟩ := hext.keep b (free0 b hb)
      exact ⟨h1, free' b h2⟩
    · rcases hs' i l hl with ⟨j, o', h1, h2, _⟩ | ⟨_, h2, _⟩
      · rw [← hG] at h1
        rcases names_get h1 with ⟨a1, a2⟩ | ⟨a1, a2, a3⟩
        · have h3 := hext.ids j l (by rw [hf.len]; exact a1) h2
          obtain ⟨i', o', h4, h5, _⟩ := hs0 j l h3
          rw [a2] at h4; cases h4
          exact h5
        · omega
      · exact h2
  have oth : Other [] (byN G) E0' E' := ⟨rfl, free', fun j i hji => ⟨by
    simp only [byN] at hji
    rw [← hG] at hji
    rcases names_get hji with ⟨a1, a2⟩ | ⟨a1, a2, a3⟩
    · have := hf.low j i a2; exact Nat.lt_of_lt_of_le this hlen'
    · show i < H'.length; rw [hf.len']; omega, fun l hl => by
    rcases hs' i l hl with ⟨j', o', h1, h2, _⟩ | ⟨h1, _⟩
    · have := hGnd _ _ _ h1 hji
      subst this
      exact h2
    · exact absurd hji (h1 j)⟩, .inl rfl, .inl rfl⟩
  refine ⟨E', x, H', he, hw, hx.rel oth v hrv, ⟨rfl, fun i l hi => ?_, fun i o' ho hdd => ?_, fun i j li lj hi hj e => ?_, fun i l hi hx => ?_, fun b hb => hH1.xlt b (by rw [hx0]; exact .inl hb)⟩, ext, rfl, rfl⟩
  · rcases hs' i l hi with ⟨j, o', h1, h2, h3, h4⟩ | ⟨h1, h2, h3, h4⟩
    · obtain ⟨o, h5, h6⟩ := hnew j i o' h1 h3 h4
      obtain ⟨o2, h7, h8⟩ := hH1.has j l h2
      rw [h5] at h7; cases h7
      exact ⟨o', h3, h6.rel oth h4 h8⟩
    · obtain ⟨o, h5, h6⟩ := hH.has i l h2
      exact ⟨o, by rw [h3]; exact h5, h6.keep (by rw [hH.n]; exact Nat.le_refl _) ext (hext.keepx _ (foreign i l h1 h2))⟩
  · show ∃ l, s' i = some l
    by_cases hex : ∃ j : Nat, G[j]? = some i
    · have e : s' i = E0'.s hex.choose := by
        simp only [s', ho]
        rw [dif_pos hex]
      obtain ⟨o, h5, h6⟩ := hnew hex.choose i o' hex.choose_spec ho hdd
      have hod : o ≠ .dead := by rintro rfl; cases h6; exact hdd rfl
      obtain ⟨l, hl⟩ := hH1.live _ o h5 hod
      exact ⟨l, by rw [e]; exact hl⟩
    · have e : s' i = E.s i := by
        simp only [s', ho]
        rw [dif_neg hex]
      have hlt := (List.getElem?_eq_some_iff.1 ho).1
      have hlt' : i < H.length := by
        by_cases hi : i < H.length
        · exact hi
        · have hg : ids.length + (i - H.length) < G.length := by rw [hGlen]; have := hf.len'; have := hf.len1; omega
          refine absurd ⟨ids.length + (i - H.length), ?_⟩ hex
          rw [← hG]
          unfold names
          rw [List.getElem?_append_right (by omega)]
          simp only [List.getElem?_map]
          rw [List.getElem?_range (by have := hf.len'; have := hf.len1; omega)]
          simp; omega
      have hold := hf.old i hlt' fun j hj => hex ⟨j, by
        have hjl := (List.getElem?_eq_some_iff.1 hj).1
        rw [← hG]; unfold names; rw [List.getElem?_append_left hjl]; exact hj⟩
      rw [hold] at ho
      obtain ⟨l, hl⟩ := hH.live i o' ho hdd
      exact ⟨l, by rw [e]; exact hl⟩
  · have hap : ∀ i j li lj, (∃ j' o', G[j']? = some i ∧ E0'.s j' = some li ∧ H'[i]? = some o' ∧ o' ≠ .dead) → ((∀ j' : Nat, G[j']? ≠ some j) ∧ E.s j = some lj) → li.b = lj.b → False := fun i j li lj ⟨j', o', h1, h2, _⟩ ⟨h3, h4⟩ e => hH1.apart j' li h2 (by rw [hx0, e]; exact foreign j lj h3 h4)
    rcases hs' i li hi with h1 | ⟨h1, h2, _⟩ <;> rcases hs' j lj hj with h3 | ⟨h3, h4, _⟩
    · obtain ⟨a, _, a1, a2, _⟩ := h1
      obtain ⟨b, _, b1, b2, _⟩ := h3
      have := hH1.inj _ _ _ _ a2 b2 e
      subst this
      rw [a1] at b1; cases b1; rfl
    · exact (hap i j li lj h1 ⟨h3, h4⟩ e).elim
    · exact (hap j i lj li h3 ⟨h1, h2⟩ e.symm).elim
    · exact hH.inj _ _ _ _ h2 h4 e
  · rcases hs' i l hi with ⟨j, o', h1, h2, _⟩ | ⟨h1, h2, _⟩
    · exact hH1.apart j l h2 (by rw [hx0]; exact .inl hx)
    · exact hH.apart i l h2 hx

/-- A function that needs no heap and leaves none. -/
theorem Det.pure {P : Program} {f : FuncId} {args : List AV} {x : AV} (hd : Det P f args [] x []) (ha : ∀ a ∈ args, Closed a) (hx : Closed x) (H : List AObj) : Det P f args H x H := by
  refine hd.frame (ids := []) (H := H) ⟨rfl, fun i j k h => by simp at h, fun j i h => by simp at h, fun j i o' h => by simp at h, by simp, by simp, fun j i o' h => by simp [names] at h, fun i _ _ => rfl⟩ ⟨rfl, fun i a b h1 h2 => ?_⟩ (hx.seen _ _)
  rw [h1] at h2; cases h2
  exact (ha a (List.mem_of_getElem? h1)).seen _ _
end Go.Proofs.Yteidimemlonjbaa.Sx
