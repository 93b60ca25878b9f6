/- How the heap of one's own goes on: a new block, a block written, a name struck, a row that goes on under a new name. No conditions: a kit of our own. -/
import Derived.Test.YteidimemlonjbaaSx6
namespace Go.Proofs.Yteidimemlonjbaa.Sx
open Go Go.RowKit
set_option linter.unusedVariables false
set_option linter.unusedSimpArgs false

/-- The world w1 is w, but for blocks of the list, which keep their kind and size, and for new ones. -/
structure Turned (w w1 : World) (own : Nat → Prop) : Prop where
  os : w1.os = w.os
  tape : w1.tape = w.tape
  output : w1.output = w.output
  size : w.heap.size ≤ w1.heap.size
  keep : ∀ b, b < w.heap.size → ¬ own b → w1.heap[b]? = w.heap[b]?
  room : ∀ (b : Nat) (cs : Array Value) (e : TypeId) (fr : Nat × Nat), w.heap[b]? = some (.cells cs e fr) → ∃ cs' : Array Value, w1.heap[b]? = some (.cells cs' e fr) ∧ cs'.size = cs.size

theorem Turned.refl (w : World) (own : Nat → Prop) : Turned w w own := ⟨rfl, rfl, rfl, Nat.le_refl _, fun _ _ _ => rfl, fun _ cs _ _ h => ⟨cs, h, rfl⟩⟩
theorem Turned.push {w w1 : World} {own : Nat → Prop} (o : Obj) (h1 : w1.os = w.os) (h2 : w1.tape = w.tape) (h3 : w1.output = w.output) (h : w1.heap = w.heap.push o) : Turned w w1 own where
  os := h1
  tape := h2
  output := h3
  size := by rw [h]; simp
  keep := fun b hb _ => by rw [h, Array.getElem?_push, if_neg (by omega)]
  room := fun b cs e fr hb => by
    have hlt := (Array.getElem?_eq_some_iff.1 hb).1
    exact ⟨cs, by rw [h, Array.getElem?_push, if_neg (by omega)]; exact hb, rfl⟩
theorem Turned.row {w : World} {g : Nat} {cs cs' : Array Value} {e : TypeId} (hg : w.heap[g]? = some (.cells cs e (0, 0))) (hs : cs'.size = cs.size) : Turned w (w.setRow g cs') (fun b => b = g) where
  os := rfl
  tape := rfl
  output := rfl
  size := by simp
  keep := fun b _ hb => setRow_other w g b cs' hb
  room := fun b c e' fr hb => by
    by_cases h : b = g
    · subst h
      rw [hg] at hb
      cases hb
      exact ⟨cs', setRow_heap w b cs _ e _ hg, hs⟩
    · exact ⟨c, by rw [setRow_other w g b cs' h]; exact hb, rfl⟩

def kill (s : Nat → Option Loc) (id : Nat) : Nat → Option Loc := fun i => if i = id then none else s i
def bear (s : Nat → Option Loc) (id : Nat) (l : Loc) : Nat → Option Loc := fun i => if i = id then some l else s i

/-- New blocks of nobody's own; drawn answers. -/
theorem HRel.grow {E : Env} {H : List AObj} (hH : HRel E H) {w1 : World} (t : Turned E.w w1 (fun _ => False)) : HRel ⟨w1, E.s, E.n, E.x⟩ H ∧ Ext E.n E ⟨w1, E.s, E.n, E.x⟩ := by
  have x : Ext E.n E ⟨w1, E.s, E.n, E.x⟩ := ⟨t.os, t.tape, t.output, t.size, fun b hb => ⟨t.keep b hb.1 (fun h => h), Nat.lt_of_lt_of_le hb.1 t.size, hb.2⟩, fun _ _ _ h => h, t.room, Nat.le_refl _, rfl, fun b hb => t.keep b (hH.xlt b hb) (fun h => h)⟩
  refine ⟨⟨hH.n, fun id l hl => ?_, hH.live, hH.inj, hH.apart, fun b hb => Nat.lt_of_lt_of_le (hH.xlt b hb) t.size⟩, x⟩
  obtain ⟨o, ho, hr⟩ := hH.has id l hl
  exact ⟨o, ho, hr.keep (Nat.le_refl _) x (t.keep _ hr.lt (fun h => h))⟩

/-- A name for nothing. -/
theorem HRel.gap {E : Env} {H : List AObj} (hH : HRel E H) : HRel ⟨E.w, E.s, E.n + 1, E.x⟩ (H ++ [.dead]) ∧ Ext E.n E ⟨E.w, E.s, E.n + 1, E.x⟩ := by
  have x : Ext E.n E ⟨E.w, E.s, E.n + 1, E.x⟩ := ⟨rfl, rfl, rfl, Nat.le_refl _, fun b hb => ⟨rfl, hb⟩, fun _ _ _ h => h, fun _ cs _ _ h => ⟨cs, h, rfl⟩, by simp, rfl, fun _ _ => rfl⟩
  refine ⟨⟨by simp [hH.n], fun id l hl => ?_, fun id o ho hd => ?_, hH.inj, hH.apart, hH.xlt⟩, x⟩
  · obtain ⟨o, ho, hr⟩ := hH.has id l hl
    exact ⟨o, by rw [List.getElem?_append_left (List.getElem?_eq_some_iff.1 ho).1]; exact ho, hr.keep (Nat.le_refl _) x rfl⟩
  · by_cases h : id < H.length
    · rw [List.getElem?_append_left h] at ho
      exact hH.live id o ho hd
    · rw [List.getElem?_append_right (by omega)] at ho
      cases hk : id - H.length with
      | zero => rw [hk] at ho; simp at ho; exact absurd ho.symm hd
      | succ k => rw [hk] at ho; simp at ho

/-- A new block, of one's own. -/
theorem HRel.bear {E : Env} {H : List AObj} (hH : HRel E H) {w1 : World} (t : Turned E.w w1 (fun _ => False)) {l : Loc} (hl : E.w.heap.size ≤ l.b) (_hl' : l.b < w1.heap.size) {o : AObj}
    (ho : Ext E.n E ⟨w1, Sx.bear E.s E.n l, E.n + 1, E.x⟩ → ORel ⟨w1, Sx.bear E.s E.n l, E.n + 1, E.x⟩ o l) :
    HRel ⟨w1, Sx.bear E.s E.n l, E.n + 1, E.x⟩ (H ++ [o]) ∧ Ext E.n E ⟨w1, Sx.bear E.s E.n l, E.n + 1, E.x⟩ := by
  have x : Ext E.n E ⟨w1, Sx.bear E.s E.n l, E.n + 1, E.x⟩ := by
    refine ⟨t.os, t.tape, t.output, t.size, fun b hb => ⟨t.keep b hb.1 (fun h => h), Nat.lt_of_lt_of_le hb.1 t.size, fun id l' h => ?_, hb.2.2⟩, fun id l' hid h => ?_, t.room, by simp, rfl, fun b hb => t.keep b (hH.xlt b hb) (fun h => h)⟩
    · simp only [Sx.bear] at h
      split at h
      · cases h; have := hb.1; omega
      · exact hb.2.1 id l' h
    · simp only [Sx.bear] at h
      rw [if_neg (by omega)] at h
      exact h
  refine ⟨⟨by simp [hH.n], fun id l' h => ?_, fun id o' h hd => ?_, fun i j li lj hi hj e => ?_, fun id l' h hx => ?_, fun b hb => Nat.lt_of_lt_of_le (hH.xlt b hb) t.size⟩, x⟩
  · simp only [Sx.bear] at h
    split at h
    · rename_i hid
      cases h
      subst hid
      exact ⟨o, by rw [hH.n]; simp, ho x⟩
    · obtain ⟨o', ho', hr⟩ := hH.has id l' h
      have hlt := (List.getElem?_eq_some_iff.1 ho').1
      exact ⟨o', by rw [List.getElem?_append_left hlt]; exact ho', hr.keep (Nat.le_refl _) x (t.keep _ hr.lt (fun h => h))⟩
  · by_cases hid : id = E.n
    · exact ⟨l, by simp [Sx.bear, hid]⟩
    · have hlt := (List.getElem?_eq_some_iff.1 h).1
      simp at hlt
      rw [List.getElem?_append_left (by have := hH.n; omega)] at h
      obtain ⟨l', h'⟩ := hH.live id o' h hd
      exact ⟨l', by simp [Sx.bear, hid]; exact h'⟩
  · simp only [Sx.bear] at hi hj
    split at hi <;> split at hj
    · omega
    · cases hi; have := hH.own_lt hj; omega
    · cases hj; have := hH.own_lt hi; omega
    · exact hH.inj i j li lj hi hj e
  · simp only [Sx.bear] at h
    split at h
    · cases h; have := hH.xlt _ hx; omega
    · exact hH.apart id l' h hx

/-- An own block is written. -/
theorem HRel.write {E : Env} {H : List AObj} (hH : HRel E H) {w1 : World} {id : Nat} {l : Loc} (hl : E.s id = some l) (t : Turned E.w w1 (fun b => b = l.b)) {o : AObj}
    (ho : Ext E.n E ⟨w1, E.s, E.n, E.x⟩ → ORel ⟨w1, E.s, E.n, E.x⟩ o l) : HRel ⟨w1, E.s, E.n, E.x⟩ (H.set id o) ∧ Ext E.n E ⟨w1, E.s, E.n, E.x⟩ := by
  have x : Ext E.n E ⟨w1, E.s, E.n, E.x⟩ := ⟨t.os, t.tape, t.output, t.size, fun b hb => ⟨t.keep b hb.1 (fun h => hb.2.1 id l hl h.symm), Nat.lt_of_lt_of_le hb.1 t.size, hb.2⟩, fun _ _ _ h => h, t.room, Nat.le_refl _, rfl, fun b hb => t.keep b (hH.xlt b hb) (fun h => hH.apart id l hl (h ▸ hb))⟩
  have hidn := hH.id_lt hl
  refine ⟨⟨by simp [hH.n], fun id' l' h => ?_, fun id' o' h hd => ?_, hH.inj, hH.apart, fun b hb => Nat.lt_of_lt_of_le (hH.xlt b hb) t.size⟩, x⟩
  · by_cases hid : id' = id
    · subst hid
      rw [hl] at h
      cases h
      exact ⟨o, by rw [List.getElem?_set_self (by have := hH.n; omega)], ho x⟩
    · obtain ⟨o', ho', hr⟩ := hH.has id' l' h
      exact ⟨o', by rw [List.getElem?_set_ne (fun e => hid e.symm)]; exact ho', hr.keep (Nat.le_refl _) x (t.keep _ hr.lt (fun e => hid (hH.inj _ _ _ _ h hl e)))⟩
  · by_cases hid : id' = id
    · subst hid; exact ⟨l, hl⟩
    · rw [List.getElem?_set_ne (fun e => hid e.symm)] at h
      exact hH.live id' o' h hd

/-- A name is struck; a new one leads to the block that it led to, or to a new one. -/
theorem HRel.pass {E : Env} {H : List AObj} (hH : HRel E H) {w1 : World} {id : Nat} {l l1 : Loc} (hl : E.s id = some l) (t : Turned E.w w1 (fun b => b = l.b)) (hb : l1.b = l.b ∨ E.w.heap.size ≤ l1.b) (_hb' : l1.b < w1.heap.size) {o : AObj}
    (ho : Ext E.n E ⟨w1, Sx.bear (kill E.s id) E.n l1, E.n + 1, E.x⟩ → ORel ⟨w1, Sx.bear (kill E.s id) E.n l1, E.n + 1, E.x⟩ o l1) :
    HRel ⟨w1, Sx.bear (kill E.s id) E.n l1, E.n + 1, E.x⟩ (H.set id .dead ++ [o]) ∧ Ext E.n E ⟨w1, Sx.bear (kill E.s id) E.n l1, E.n + 1, E.x⟩ := by
  have hidn := hH.id_lt hl
  have x : Ext E.n E ⟨w1, Sx.bear (kill E.s id) E.n l1, E.n + 1, E.x⟩ := by
    refine ⟨t.os, t.tape, t.output, t.size, fun b hb1 => ⟨t.keep b hb1.1 (fun h => hb1.2.1 id l hl h.symm), Nat.lt_of_lt_of_le hb1.1 t.size, fun id' l' h => ?_, hb1.2.2⟩, fun id' l' hid h => ?_, t.room, by simp, rfl, fun b hb => t.keep b (hH.xlt b hb) (fun h => hH.apart id l hl (h ▸ hb))⟩
    · simp only [Sx.bear, kill] at h
      split at h
      · cases h
        rcases hb with hb | hb
        · rw [hb]; exact hb1.2.1 id l hl
        · have := hb1.1; omega
      · split at h
        · cases h
        · exact hb1.2.1 id' l' h
    · simp only [Sx.bear, kill] at h
      rw [if_neg (by omega)] at h
      split at h
      · cases h
      · exact h
  refine ⟨⟨by simp [hH.n], fun id' l' h => ?_, fun id' o' h hd => ?_, fun i j li lj hi hj e => ?_, fun id' l' h hx => ?_, fun b hb => Nat.lt_of_lt_of_le (hH.xlt b hb) t.size⟩, x⟩
  · simp only [Sx.bear, kill] at h
    split at h
    · rename_i hid
      cases h
      subst hid
      refine ⟨o, ?_, ho x⟩
      rw [List.getElem?_append_right (by simp [hH.n])]
      simp [hH.n]
    · split at h
      · cases h
      · rename_i hid
        obtain ⟨o', ho', hr⟩ := hH.has id' l' h
        have hlt := (List.getElem?_eq_some_iff.1 ho').1
        refine ⟨o', by rw [List.getElem?_append_left (by simpa using hlt), List.getElem?_set_ne (fun e => hid e.symm)]; exact ho', hr.keep (Nat.le_refl _) x (t.keep _ hr.lt (fun e => hid (hH.inj _ _ _ _ h hl e)))⟩
  · by_cases hid : id' = E.n
    · exact ⟨l1, by simp [Sx.bear, hid]⟩
    · have hlt := (List.getElem?_eq_some_iff.1 h).1
      simp at hlt
      have hlt' : id' < H.length := by have := hH.n; omega
      rw [List.getElem?_append_left (by simpa using hlt')] at h
      by_cases hid2 : id' = id
      · subst hid2
        rw [List.getElem?_set_self hlt'] at h
        cases h
        exact absurd rfl hd
      · rw [List.getElem?_set_ne (fun e => hid2 e.symm)] at h
        obtain ⟨l', h'⟩ := hH.live id' o' h hd
        exact ⟨l', by simp [Sx.bear, kill, hid, hid2]; exact h'⟩
  · simp only [Sx.bear, kill] at hi hj
    split at hi <;> split at hj
    · omega
    · cases hi
      split at hj
      · cases hj
      · rename_i h1 h2 h3
        rcases hb with hb | hb
        · exact absurd (hH.inj j id lj l hj hl (by omega)) h3
        · have := hH.own_lt hj; omega
    · cases hj
      split at hi
      · cases hi
      · rename_i h1 h2 h3
        rcases hb with hb | hb
        · exact absurd (hH.inj i id li l hi hl (by omega)) h3
        · have := hH.own_lt hi; omega
    · split at hi
      · cases hi
      · split at hj
        · cases hj
        · exact hH.inj i j li lj hi hj e
  · simp only [Sx.bear, kill] at h
    split at h
    · cases h
      rcases hb with hb | hb
      · simp only [hb] at hx; exact hH.apart id l hl hx
      · have := hH.xlt _ hx; omega
    · split at h
      · cases h
      · exact hH.apart id' l' h hx

/-- A row's object out of its cells. -/
theorem ORel.mk {E : Env} {sz : Nat} {rs : List (List AV)} {l : Loc} {cs : Array Value} {e : TypeId} (hs : l.sz = sz) (hb : E.w.heap[l.b]? = some (.cells cs e (0, 0))) (hl : l.base + rs.length * sz ≤ cs.size)
    (hr : ∀ (i : Nat) (r : List AV), rs[i]? = some r → r.length = sz) (h : ∀ (i : Nat) (r : List AV) (j : Nat), rs[i]? = some r → j < sz → ∃ v, cs[l.base + i * sz + j]? = some v ∧ v.oneCell' = true ∧ ∀ a, r[j]? = some a → VRel E a v) : ORel E (.rows sz rs) l := by
  refine .rows cs e hs hb hl hr (fun k v hk hv => ?_) (fun i r j a v hi hj hv => ?_)
  · by_cases hz : sz = 0
    · subst hz; simp at hk
    · have hi : k / sz < rs.length := Nat.div_lt_of_lt_mul (by rw [Nat.mul_comm]; exact hk)
      obtain ⟨u, hu, h1, _⟩ := h (k / sz) (rs[k / sz]'hi) (k % sz) (List.getElem?_eq_getElem hi) (Nat.mod_lt _ (by omega))
      have e1 : l.base + k / sz * sz + k % sz = l.base + k := by
        have := Nat.div_add_mod k sz
        rw [Nat.mul_comm] at this
        omega
      rw [e1, hv] at hu
      cases hu
      exact h1
  · have hlt := (List.getElem?_eq_some_iff.1 hj).1
    obtain ⟨u, hu, _, h2⟩ := h i r j hi (by have := hr i r hi; omega)
    rw [hv] at hu
    cases hu
    exact h2 a hj
end Go.Proofs.Yteidimemlonjbaa.Sx
