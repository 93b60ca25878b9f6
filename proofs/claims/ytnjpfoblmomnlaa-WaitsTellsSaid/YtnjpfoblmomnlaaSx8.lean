/- How the heap of one's own goes on: a new block, a block written, a name struck, a row that goes on under a new name. No conditions: a kit of our own. -/
import Derived.Test.YtnjpfoblmomnlaaSx6
namespace Go.Proofs.Ytnjpfoblmomnlaa.Sx
open Go Go.RowKit
set_option linter.unusedVariables false
set_option linter.unusedSimpArgs false

/-- The world w1 is w, but for blocks of the list, which keep their kind and size, and for new ones. -/
structure Turned (w w1 : World) (own : Nat → Prop) : Prop where
  os : w1.os = w.os
  tape : w1.tape = w.tape
  output : w1.output = w.output
  size : w.heap.size ≤ w1.heap.size
  keep : ∀ b, b < w.heap.size → ¬ own b → w1.heap[b]? = w.heap[b]?
  room : ∀ (b : Nat) (cs : Array Value) (e : TypeId) (fr : Nat × Nat), w.heap[b]? = some (.cells cs e fr) → ∃ cs' : Array Value, w1.heap[b]? = some (.cells cs' e fr) ∧ cs'.size = cs.size

theorem Turned.refl (w : World) (own : Nat → Prop) : Turned w w own := ⟨rfl, rfl, rfl, Nat.le_refl _, fun _ _ _ => rfl, fun _ cs _ _ h => ⟨cs, h, rfl⟩⟩
theorem Turned.push {w w1 : World} {own : Nat → Prop} (o : Obj) (h1 : w1.os = w.os) (h2 : w1.tape = w.tape) (h3 : w1.output = w.output) (h : w1.heap = w.heap.push o) : Turned w w1 own where
  os := h1
  tape := h2
  output := h3
  size := by rw [h]; simp
  keep := fun b hb _ => by rw [h, Array.getElem?_push, if_neg (by omega)]
  room := fun b cs e fr hb => by
    have hlt := (Array.getElem?_eq_some_iff.1 hb).1
    exact ⟨cs, by rw [h, Array.getElem?_push, if_neg (by omega)]; exact hb, rfl⟩
theorem Turned.row {w : World} {g : Nat} {cs cs' : Array Value} {e : TypeId} (hg : w.heap[g]? = some (.cells cs e (0, 0))) (hs : cs'.size = cs.size) : Turned w (w.setRow g cs') (fun b => b = g) where
  os := rfl
  tape := rfl
  output := rfl
  size := by simp
  keep := fun b _ hb => setRow_other w g b cs' hb
  room := fun b c e' fr hb => by
    by_cases h : b = g
    · subst h
      rw [hg] at hb
      cases hb
      exact ⟨cs', setRow_heap w b cs _ e _ hg, hs⟩
    · exact ⟨c, by rw [setRow_other w g b cs' h]; exact hb, rfl⟩

def kill (s : Nat → Option Loc) (id : Nat) : Nat → Option Loc := fun i => if i = id then none else s i
def bear (s : Nat → Option Loc) (id : Nat) (l : Loc) : Nat → Option Loc := fun i => if i = id then some l else s i

/-- New blocks of nobody's own; drawn answers. -/
theorem HRel.grow {E : Env} {H : List AObj} (hH : HRel E H) {w1 : World} (t : Turned E.w w1 (fun _ => False)) : HRel ⟨w1, E.s, E.n, E.x⟩ H ∧ Ext E.n E ⟨w1, E.s, E.n, E.x⟩ := by
  have x : Ext E.n E ⟨w1, E.s, E.n, E.x⟩ := ⟨t.os, t.tape, t.output, t.size, fun b hb => ⟨t.keep b hb.1 (fun h => h), Nat.lt_of_lt_of_le hb.1 t.size, hb.2⟩, fun _ _ _ h => h, t.room, Nat.le_refl _, fun _ => Iff.rfl, fun b hb => t.keep b (hH.xlt b hb.1) (fun h => h)⟩
  refine ⟨⟨hH.n, fun id l hl => ?_, hH.live, hH.inj, hH.apart, fun b hb => Nat.lt_of_lt_of_le (hH.xlt b hb) t.size⟩, x⟩
  obtain ⟨o, ho, hr⟩ := hH.has id l hl
  exact ⟨o, ho, hr.keep (Nat.le_refl _) x (t.keep _ hr.lt (fun h => h)) fun b => ⟨fun hb => t.keep b (hH.xlt b hb.1) (fun h => h), Iff.rfl⟩⟩

/-- A name for nothing. -/
theorem HRel.gap {E : Env} {H : List AObj} (hH : HRel E H) : HRel ⟨E.w, E.s, E.n + 1, E.x⟩ (H ++ [.dead]) ∧ Ext E.n E ⟨E.w, E.s, E.n + 1, E.x⟩ := by
  have x : Ext E.n E ⟨E.w, E.s, E.n + 1, E.x⟩ := ⟨rfl, rfl, rfl, Nat.le_refl _, fun b hb => ⟨rfl, hb⟩, fun _ _ _ h => h, fun _ cs _ _ h => ⟨cs, h, rfl⟩, by simp, fun _ => Iff.rfl, fun _ _ => rfl⟩
  refine ⟨⟨by simp [hH.n], fun id l hl => ?_, fun id o ho hd => ?_, hH.inj, hH.apart, hH.xlt⟩, x⟩
  · obtain ⟨o, ho, hr⟩ := hH.has id l hl
    exact ⟨o, by rw [List.getElem?_append_left (List.getElem?_eq_some_iff.1 ho).1]; exact ho, hr.keep (Nat.le_refl _) x rfl fun b => ⟨fun _ => rfl, Iff.rfl⟩⟩
  · by_cases h : id < H.length
    · rw [List.getElem?_append_left h] at ho
      exact hH.live id o ho hd
    · rw [List.getElem?_append_right (by omega)] at ho
      cases hk : id - H.length with
      | zero => rw [hk] at ho; simp at ho; exact absurd ho.symm hd
      | succ k => rw [hk] at ho; simp at ho

/-- A new block, of one's own. -/
theorem HRel.bear {E : Env} {H : List AObj} (hH : HRel E H) {w1 : World} (t : Turned E.w w1 (fun _ => False)) {l : Loc} (hl : E.w.heap.size ≤ l.b) (_hl' : l.b < w1.heap.size) {o : AObj}
    (ho : Ext E.n E ⟨w1, Sx.bear E.s E.n l, E.n + 1, E.x⟩ → ORel ⟨w1, Sx.bear E.s E.n l, E.n + 1, E.x⟩ o l) :
    HRel ⟨w1, Sx.bear E.s E.n l, E.n + 1, E.x⟩ (H ++ [o]) ∧ Ext E.n E ⟨w1, Sx.bear E.s E.n l, E.n + 1, E.x⟩ := by
  have x : Ext E.n E ⟨w1, Sx.bear E.s E.n l, E.n + 1, E.x⟩ := by
    refine ⟨t.os, t.tape, t.output, t.size, fun b hb => ⟨t.keep b hb.1 (fun h => h), Nat.lt_of_lt_of_le hb.1 t.size, fun id l' h => ?_, hb.2.2⟩, fun id l' hid h => ?_, t.room, by simp, fun _ => Iff.rfl, fun b hb => t.keep b (hH.xlt b hb.1) (fun h => h)⟩
    · simp only [Sx.bear] at h
      split at h
      · cases h; have := hb.1; omega
      · exact hb.2.1 id l' h
    · simp only [Sx.bear] at h
      rw [if_neg (by omega)] at h
      exact h
  refine ⟨⟨by simp [hH.n], fun id l' h => ?_, fun id o' h hd => ?_, fun i j li lj hi hj e => ?_, fun id l' h hx => ?_, fun b hb => Nat.lt_of_lt_of_le (hH.xlt b hb) t.size⟩, x⟩
  · simp only [Sx.bear] at h
    split at h
    · rename_i hid
      cases h
      subst hid
      exact ⟨o, by rw [hH.n]; simp, ho x⟩
    · obtain ⟨o', ho', hr⟩ := hH.has id l' h
      have hlt := (List.getElem?_eq_some_iff.1 ho').1
      exact ⟨o', by rw [List.getElem?_append_left hlt]; exact ho', hr.keep (Nat.le_refl _) x (t.keep _ hr.lt (fun h => h)) fun b => ⟨fun hb => t.keep b (hH.xlt b hb.1) (fun h => h), Iff.rfl⟩⟩
  · by_cases hid : id = E.n
    · exact ⟨l, by simp [Sx.bear, hid]⟩
    · have hlt := (List.getElem?_eq_some_iff.1 h).1
      simp at hlt
      rw [List.getElem?_append_left (by have := hH.n; omega)] at h
      obtain ⟨l', h'⟩ := hH.live id o' h hd
      exact ⟨l', by simp [Sx.bear, hid]; exact h'⟩
  · simp only [Sx.bear] at hi hj
    split at hi <;> split at hj
    · omega
    · cases hi; have := hH.own_lt hj; omega
    · cases hj; have := hH.own_lt hi; omega
    · exact hH.inj i j li lj hi hj e
  · simp only [Sx.bear] at h
    split at h
    · cases h; have := hH.xlt _ hx; omega
    · exact hH.apart id l' h hx

/-- An own block is written. -/
theorem HRel.write {E : Env} {H : List AObj} (hH : HRel E H) {w1 : World} {id : Nat} {l : Loc} (hl : E.s id = some l) (t : Turned E.w w1 (fun b => b = l.b)) {o : AObj}
    (ho : Ext E.n E ⟨w1, E.s, E.n, E.x⟩ → ORel ⟨w1, E.s, E.n, E.x⟩ o l) : HRel ⟨w1, E.s, E.n, E.x⟩ (H.set id o) ∧ Ext E.n E ⟨w1, E.s, E.n, E.x⟩ := by
  have x : Ext E.n E ⟨w1, E.s, E.n, E.x⟩ := ⟨t.os, t.tape, t.output, t.size, fun b hb => ⟨t.keep b hb.1 (fun h => hb.2.1 id l hl h.symm), Nat.lt_of_lt_of_le hb.1 t.size, hb.2⟩, fun _ _ _ h => h, t.room, Nat.le_refl _, fun _ => Iff.rfl, fun b hb => t.keep b (hH.xlt b hb.1) (fun h => hH.apart id l hl (h ▸ hb.1))⟩
  have hidn := hH.id_lt hl
  refine ⟨⟨by simp [hH.n], fun id' l' h => ?_, fun id' o' h hd => ?_, hH.inj, hH.apart, fun b hb => Nat.lt_of_lt_of_le (hH.xlt b hb) t.size⟩, x⟩
  · by_cases hid : id' = id
    · subst hid
      rw [hl] at h
      cases h
      exact ⟨o, by rw [List.getElem?_set_self (by have := hH.n; omega)], ho x⟩
    · obtain ⟨o', ho', hr⟩ := hH.has id' l' h
      exact ⟨o', by rw [List.getElem?_set_ne (fun e => hid e.symm)]; exact ho', hr.keep (Nat.le_refl _) x (t.keep _ hr.lt (fun e => hid (hH.inj _ _ _ _ h hl e))) fun b => ⟨fun hb => t.keep b (hH.xlt b hb.1) (fun h => hH.apart id l hl (h ▸ hb.1)), Iff.rfl⟩⟩
  · by_cases hid : id' = id
    · subst hid; exact ⟨l, hl⟩
    · rw [List.getElem?_set_ne (fun e => hid e.symm)] at h
      exact hH.live id' o' h hd

/-- A name is struck; a new one leads to the block that it led to, or to a new one. -/
theorem HRel.pass {E : Env} {H : List AObj} (hH : HRel E H) {w1 : World} {id : Nat} {l l1 : Loc} (hl : E.s id = some l) (t : Turned E.w w1 (fun b => b = l.b)) (hb : l1.b = l.b ∨ E.w.heap.size ≤ l1.b) (_hb' : l1.b < w1.heap.size) {o : AObj}
    (ho : Ext E.n E ⟨w1, Sx.bear (kill E.s id) E.n l1, E.n + 1, E.x⟩ → ORel ⟨w1, Sx.bear (kill E.s id) E.n l1, E.n + 1, E.x⟩ o l1) :
    HRel ⟨w1, Sx.bear (kill E.s id) E.n l1, E.n + 1, E.x⟩ (H.set id .dead ++ [o]) ∧ Ext E.n E ⟨w1, Sx.bear (kill E.s id) E.n l1, E.n + 1, E.x⟩ := by
  have hidn := hH.id_lt hl
  have x : Ext E.n E ⟨w1, Sx.bear (kill E.s id) E.n l1, E.n + 1, E.x⟩ := by
    refine ⟨t.os, t.tape, t.output, t.size, fun b hb1 => ⟨t.keep b hb1.1 (fun h => hb1.2.1 id l hl h.symm), Nat.lt_of_lt_of_le hb1.1 t.size, fun id' l' h => ?_, hb1.2.2⟩, fun id' l' hid h => ?_, t.room, by simp, fun _ => Iff.rfl, fun b hb => t.keep b (hH.xlt b hb.1) (fun h => hH.apart id l hl (h ▸ hb.1))⟩
    · simp only [Sx.bear, kill] at h
      split at h
      · cases h
        rcases hb with hb | hb
        · rw [hb]; exact hb1.2.1 id l hl
        · have := hb1.1; omega
      · split at h
        · cases h
        · exact hb1.2.1 id' l' h
    · simp only [Sx.bear, kill] at h
      rw [if_neg (by omega)] at h
      split at h
      · cases h
      · exact h
  refine ⟨⟨by simp [hH.n], fun id' l' h => ?_, fun id' o' h hd => ?_, fun i j li lj hi hj e => ?_, fun id' l' h hx => ?_, fun b hb => Nat.lt_of_lt_of_le (hH.xlt b hb) t.size⟩, x⟩
  · simp only [Sx.bear, kill] at h
    split at h
    · rename_i hid
      cases h
      subst hid
      refine ⟨o, ?_, ho x⟩
      rw [List.getElem?_append_right (by simp [hH.n])]
      simp [hH.n]
    · split at h
      · cases h
      · rename_i hid
        obtain ⟨o', ho', hr⟩ := hH.has id' l' h
        have hlt := (List.getElem?_eq_some_iff.1 ho').1
        refine ⟨o', by rw [List.getElem?_append_left (by simpa using hlt), List.getElem?_set_ne (fun e => hid e.symm)]; exact ho', hr.keep (Nat.le_refl _) x (t.keep _ hr.lt (fun e => hid (hH.inj _ _ _ _ h hl e))) fun b => ⟨fun hb => t.keep b (hH.xlt b hb.1) (fun h => hH.apart id l hl (h ▸ hb.1)), Iff.rfl⟩⟩
  · by_cases hid : id' = E.n
    · exact ⟨l1, by simp [Sx.bear, hid]⟩
    · have hlt := (List.getElem?_eq_some_iff.1 h).1
      simp at hlt
      have hlt' : id' < H.length := by have := hH.n; omega
      rw [List.getElem?_append_left (by simpa using hlt')] at h
      by_cases hid2 : id' = id
      · subst hid2
        rw [List.getElem?_set_self hlt'] at h
        cases h
        exact absurd rfl hd
      · rw [List.getElem?_set_ne (fun e => hid2 e.symm)] at h
        obtain ⟨l', h'⟩ := hH.live id' o' h hd
        exact ⟨l', by simp [Sx.bear, kill, hid, hid2]; exact h'⟩
  · simp only [Sx.bear, kill] at hi hj
    split at hi <;> split at hj
    · omega
    · cases hi
      split at hj
      · cases hj
      · rename_i h1 h2 h3
        rcases hb with hb | hb
        · exact absurd (hH.inj j id lj l hj hl (by omega)) h3
        · have := hH.own_lt hj; omega
    · cases hj
      split at hi
      · cases hi
      · rename_i h1 h2 h3
        rcases hb with hb | hb
        · exact absurd (hH.inj i id li l hi hl (by omega)) h3
        · have := hH.own_lt hi; omega
    · split at hi
      · cases hi
      · split at hj
        · cases hj
        · exact hH.inj i j li lj hi hj e
  · simp only [Sx.bear, kill] at h
    split at h
    · cases h
      rcases hb with hb | hb
      · simp only [hb] at hx; exact hH.apart id l hl hx
      · have := hH.xlt _ hx; omega
    · split at h
      · cases h
      · exact hH.apart id' l' h hx

/-- A row's object out of its cells. -/
theorem ORel.mk {E : Env} {sz : Nat} {rs : List (List AV)} {l : Loc} {cs : Array Value} {e : TypeId} (hs : l.sz = sz) (hb : E.w.heap[l.b]? = some (.cells cs e (0, 0))) (hl : l.base + rs.length * sz ≤ cs.size)
    (hr : ∀ (i : Nat) (r : List AV), rs[i]? = some r → r.length = sz) (h : ∀ (i : Nat) (r : List AV) (j : Nat), rs[i]? = some r → j < sz → ∃ v, cs[l.base + i * sz + j]? = some v ∧ v.oneCell' = true ∧ ∀ a, r[j]? = some a → VRel E a v) : ORel E (.rows sz rs) l := by
  refine .rows cs e hs hb hl hr (fun k v hk hv => ?_) (fun i r j a v hi hj hv => ?_)
  · by_cases hz : sz = 0
    · subst hz; simp at hk
    · have hi : k / sz < rs.length := Nat.div_lt_of_lt_mul (by rw [Nat.mul_comm]; exact hk)
      obtain ⟨u, hu, h1, _⟩ := h (k / sz) (rs[k / sz]'hi) (k % sz) (List.getElem?_eq_getElem hi) (Nat.mod_lt _ (by omega))
      have e1 : l.base + k / sz * sz + k % sz = l.base + k := by
        have := Nat.div_add_mod k sz
        rw [Nat.mul_comm] at this
        omega
      rw [e1, hv] at hu
      cases hu
      exact h1
  · have hlt := (List.getElem?_eq_some_iff.1 hj).1
    obtain ⟨u, hu, _, h2⟩ := h i r j hi (by have := hr i r hi; omega)
    rw [hv] at hu
    cases hu
    exact h2 a hj
end Go.Proofs.Ytnjpfoblmomnlaa.Sx
/- That operations which make and write memory do what the small language says: new variables, structs, literals, stores. No conditions: a kit of our own. -/
namespace Go.Proofs.Ytnjpfoblmomnlaa.Sx
open Go Go.RowKit
set_option linter.unusedVariables false
set_option linter.unusedSimpArgs false

theorem CellsRel.ext {E E' : Env} {m : Nat} (hm : E.n ≤ m) (x : Ext m E E') {cs : List AV} {vs : Array Value} (h : CellsRel E cs vs) : CellsRel E' cs vs :=
  ⟨h.len, h.one, fun i a v ha hv => (h.at_ i a v ha hv).ext hm x⟩
theorem CellsRel.get {E : Env} {cs : List AV} {vs : Array Value} (h : CellsRel E cs vs) {j : Nat} (hj : j < cs.length) : ∃ v, vs[j]? = some v ∧ v.oneCell' = true ∧ ∀ a, cs[j]? = some a → VRel E a v := by
  have hl := h.len
  have hv : vs[j]? = some (vs[j]'(by omega)) := Array.getElem?_eq_getElem (by omega)
  exact ⟨_, hv, h.one _ _ hv, fun a ha => h.at_ j a _ ha hv⟩

/-- One row, in a new block. -/
theorem ORel.one {E : Env} {cs : List AV} {vs : Array Value} {b : Nat} {e : TypeId} (h : CellsRel E cs vs) (hb : E.w.heap[b]? = some (.cells vs e (0, 0))) : ORel E (.rows cs.length [cs]) ⟨b, 0, cs.length⟩ := by
  refine .mk rfl hb (by have := h.len; simp; omega) (fun i r hi => ?_) (fun i r j hi hj => ?_)
  · cases i with
    | zero => simp at hi; subst hi; rfl
    | succ i => simp at hi
  · cases i with
    | zero =>
      simp at hi
      subst hi
      simpa using h.get hj
    | succ i => simp at hi

section
variable {P : Program} {o : Oper} {r : Opd → AV} {H : List AObj}

theorem OpOk.go {x : AV} {H' : List AObj} (h : ∀ E a, OpsRel E r a o → HRel E H → ∃ v E', ((execOp a.eval o).run P E.w = .ok (.value v) E'.w ∨ ((execOp a.eval o).run P E.w = .ok .skip E'.w ∧ v = undef)) ∧ VRel E' x v ∧ HRel E' H' ∧ Ext E.n E E') :
    OpOk P o r H (Is x H') := by
  intro E a next Q hr hH hn
  obtain ⟨v, E', hrun, hv, hH', hx⟩ := h E a hr hH
  rcases hrun with hrun | ⟨hrun, rfl⟩
  · simp only [Oper.wp, hrun, Oper.upon]
    exact hn v E' x H' hv hH' hx ⟨rfl, rfl⟩
  · simp only [Oper.wp, hrun, Oper.upon]
    exact hn undef E' x H' hv hH' hx ⟨rfl, rfl⟩

theorem constOk_one {v : Value} {a : AV} (h : constOk v a = true) : v.oneCell' = true := by
  unfold constOk at h
  split at h <;> first | rfl | (cases h; done)
theorem all2_cells {E : Env} {vs : Array Value} {z : List AV} (h : all2 constOk vs.toList z = true) : CellsRel E z vs :=
  ⟨by simpa using all2_len h, fun i v hv => by
    have hl := all2_len h
    have hlt := (Array.getElem?_eq_some_iff.1 hv).1
    have hz : z[i]? = some (z[i]'(by simp at hl; omega)) := List.getElem?_eq_getElem (by simp at hl; omega)
    exact constOk_one (all2_at h i v _ (by simpa using hv) hz), fun i a v ha hv => .const (all2_at h i v a (by simpa using hv) ha)⟩
theorem zeroIs_run {t : TypeId} {z : List AV} (h : zeroIs P t z = true) : ∃ i v, P.info? t = some i ∧ i.zero = some v ∧ ∀ E, CellsRel E z v.cells := by
  unfold zeroIs at h
  split at h
  · rename_i i hi
    split at h
    · rename_i v hv; exact ⟨i, v, hi, hv, fun E => all2_cells h⟩
    · cases h
  · cases h

/-- A new variable with these cells. -/
theorem new_one {E : Env} (hH : HRel E H) {cs : List AV} {vs : Array Value} (h : CellsRel E cs vs) (e : TypeId) : ∃ E', E'.w = E.w.alloc (.cells vs e) ∧ HRel E' (H ++ [.rows cs.length [cs]]) ∧ Ext E.n E E' ∧
    VRel E' (.ptr H.length 0 0) (.pointer (some ⟨E.w.heap.size, 0, none⟩)) := by
  have t : Turned E.w (E.w.alloc (.cells vs e)) (fun _ => False) := .push _ rfl rfl rfl rfl
  obtain ⟨h1, h2⟩ := hH.bear t (l := ⟨E.w.heap.size, 0, cs.length⟩) (Nat.le_refl _) (by simp) (o := .rows cs.length [cs]) (fun x => .one (e := e) (h.ext (Nat.le_refl _) x) (by
    show (E.w.heap.push _)[E.w.heap.size]? = _
    simp))
  refine ⟨_, rfl, h1, h2, ?_⟩
  refine .ptr (by simp [hH.n]) rfl (fun l hl => ?_)
  simp only [Sx.bear, hH.n, if_true] at hl
  cases hl
  simp

theorem ok_alloc {t : TypeId} {z : List AV} (ho : o.op = .alloc t) (hz : zeroIs P t z = true) : OpOk P o r H (Is (.ptr H.length 0 0) (H ++ [.rows z.length [z]])) :=
  .go fun E a hr hH => by
    obtain ⟨i, v, hi, hv, hc⟩ := zeroIs_run hz
    obtain ⟨E', hw, h1, h2, h3⟩ := new_one hH (hc E) t
    refine ⟨_, E', .inl ?_, h3, h1, h2⟩
    rw [hw]
    simp [execOp, ho, Instr.alloc, zeroValue, typeInfo, hi, hv, newVar, newRow]

theorem ok_box {t : TypeId} {x : Operand} {y : Opd} (ho : o.op = .box t x) (hx : opdOk x y = true) (hp : (cellsL (r y)).all AV.plain = true) : OpOk P o r H (Is (.ptr H.length 0 0) (H ++ [.rows (cellsL (r y)).length [cellsL (r y)]])) :=
  .go fun E a hr hH => by
    have h := hr.at_ (x := x) (by simp [ho, Op.operands]) hx
    obtain ⟨E', hw, h1, h2, h3⟩ := new_one hH (h.cells hp) t
    refine ⟨_, E', .inl ?_, h3, h1, h2⟩
    rw [hw]
    simp [execOp, ho, Instr.box, newVar, newRow]

/-! ### structs out of parts -/
def fillv (z : List AV) : List (Nat × Nat × AV) → List AV
  | [] => z
  | (off, _, v) :: rest => fillv (over z off (cellsL v)) rest
def FillOk (z : List AV) : List (Nat × Nat × AV) → Prop
  | [] => True
  | (off, size, v) :: rest => (cellsL v).length = size ∧ (cellsL v).all AV.plain = true ∧ off + size ≤ z.length ∧ FillOk (over z off (cellsL v)) rest
theorem fill1_iff {k : List AV → Prop} : ∀ (ps : List (Nat × Nat × AV)) (z : List AV), fill1 z ps k ↔ FillOk z ps ∧ k (fillv z ps)
  | [], z => by simp [fill1, FillOk, fillv]
  | (off, size, v) :: rest, z => by
    simp only [fill1, FillOk, fillv]
    rw [fill1_iff rest]
    constructor
    · rintro ⟨a, b, c, d, e⟩; exact ⟨⟨a, b, c, d⟩, e⟩
    · rintro ⟨⟨a, b, c, d⟩, e⟩; exact ⟨a, b, c, d, e⟩

theorem fill_run {E : Env} (place : Nat → Option (Nat × Nat)) : ∀ (ps : List (Nat × Value)) (qs : List (Nat × Nat × AV)) (z : List AV) (c : Array Value), CellsRel E z c → ps.length = qs.length →
    (∀ (j i : Nat) v off sz a, ps[j]? = some (i, v) → qs[j]? = some (off, sz, a) → place i = some (off, sz) ∧ VRel E a v) → FillOk z qs → ∃ c', Instr.fill place c ps = some c' ∧ CellsRel E (fillv z qs) c'
  | [], [], z, c, hc, _, _, _ => ⟨c, rfl, hc⟩
  | (i, v) :: ps, (off, sz, a) :: qs, z, c, hc, hl, hp, hf => by
    obtain ⟨h1, h2⟩ := hp 0 i v off sz a rfl rfl
    obtain ⟨f1, f2, f3, f4⟩ := hf
    have f1 : (cellsL a).length = sz := f1
    have f3 : off + sz ≤ z.length := f3
    have hv := h2.cells f2
    have hvl := hv.len
    have hcl := hc.len
    obtain ⟨c', e1, e2⟩ := fill_run place ps qs (over z off (cellsL a)) _ (hc.over hv (off := off) (by omega)) (by simpa using hl) (fun j i v off sz a h h' => hp (j + 1) i v off sz a (by simpa using h) (by simpa using h')) f4
    refine ⟨c', ?_, e2⟩
    simp only [Instr.fill, h1]
    rw [if_neg (by simp only [Bool.or_eq_true, decide_eq_true_eq]; omega)]
    exact e1
  | [], _ :: _, _, _, _, hl, _, _ => by simp at hl
  | _ :: _, [], _, _, _, hl, _, _ => by simp at hl

/-- The places of a struct's or an array's parts. -/
def buildIs (P : Program) (t : TypeId) (z : List AV) (ps : List (Nat × Operand)) (qs : List (Nat × Nat × Opd)) : Bool :=
  zeroIs P t z && match P.underlying t with
    | some (.struct fs) => fs.all (fun f => (P.info? f.type).isSome) && partsOk P fs ps qs
    | some (.array _ e) => (match P.info? e with | some i => partsOkA i.size ps qs | none => false)
    | _ => false

theorem partsOk_len {fs : Array Field} : ∀ {ps : List (Nat × Operand)} {qs : List (Nat × Nat × Opd)}, partsOk P fs ps qs = true → ps.length = qs.length
  | [], [], _ => rfl
  | (i, x) :: ps, (off, sz, y) :: qs, h => by simp only [partsOk, Bool.and_eq_true] at h; simp [partsOk_len h.2]
  | [], _ :: _, h => by simp [partsOk] at h
  | (_, _) :: _, [], h => by simp [partsOk] at h
theorem partsOk_at {fs : Array Field} : ∀ {ps : List (Nat × Operand)} {qs : List (Nat × Nat × Opd)}, partsOk P fs ps qs = true → ∀ (j i : Nat) x off sz y, ps[j]? = some (i, x) → qs[j]? = some (off, sz, y) →
    (∃ f, fs[i]? = some f ∧ f.offset = off ∧ sizeIs P f.type sz = true) ∧ opdOk x y = true
  | (i, x) :: ps, (off, sz, y) :: qs, h, 0, i', x', off', sz', y', h1, h2 => by
    simp only [partsOk, Bool.and_eq_true] at h
    simp at h1 h2
    obtain ⟨rfl, rfl⟩ := h1
    obtain ⟨rfl, rfl, rfl⟩ := h2
    obtain ⟨⟨h3, h4⟩, _⟩ := h
    split at h3
    · rename_i f hf; simp at h3; exact ⟨⟨f, hf, h3⟩, h4⟩
    · cases h3
  | (i, x) :: ps, (off, sz, y) :: qs, h, j + 1, i', x', off', sz', y', h1, h2 => by
    simp only [partsOk, Bool.and_eq_true] at h
    exact partsOk_at h.2 j i' x' off' sz' y' (by simpa using h1) (by simpa using h2)
  | [], [], _, j, _, _, _, _, _, h1, _ => by simp at h1
  | [], _ :: _, h, _, _, _, _, _, _, _, _ => by simp [partsOk] at h
  | (_, _) :: _, [], h, _, _, _, _, _, _, _, _ => by simp [partsOk] at h
theorem partsOkA_len {n : Nat} : ∀ {ps : List (Nat × Operand)} {qs : List (Nat × Nat × Opd)}, partsOkA n ps qs = true → ps.length = qs.length
  | [], [], _ => rfl
  | (i, x) :: ps, (off, sz, y) :: qs, h => by simp only [partsOkA, Bool.and_eq_true] at h; simp [partsOkA_len h.2]
  | [], _ :: _, h => by simp [partsOkA] at h
  | (_, _) :: _, [], h => by simp [partsOkA] at h
theorem partsOkA_at {n : Nat} : ∀ {ps : List (Nat × Operand)} {qs : List (Nat × Nat × Opd)}, partsOkA n ps qs = true → ∀ (j i : Nat) x off sz y, ps[j]? = some (i, x) → qs[j]? = some (off, sz, y) → i * n = off ∧ sz = n ∧ opdOk x y = true
  | (i, x) :: ps, (off, sz, y) :: qs, h, 0, i', x', off', sz', y', h1, h2 => by
    simp only [partsOkA, Bool.and_eq_true] at h
    simp at h1 h2
    obtain ⟨rfl, rfl⟩ := h1
    obtain ⟨rfl, rfl, rfl⟩ := h2
    obtain ⟨⟨⟨h3, h4⟩, h5⟩, _⟩ := h
    exact ⟨by simpa using h3, by simpa using h4, h5⟩
  | (i, x) :: ps, (off, sz, y) :: qs, h, j + 1, i', x', off', sz', y', h1, h2 => by
    simp only [partsOkA, Bool.and_eq_true] at h
    exact partsOkA_at h.2 j i' x' off' sz' y' (by simpa using h1) (by simpa using h2)
  | [], [], _, j, _, _, _, _, _, h1, _ => by simp at h1
  | [], _ :: _, h, _, _, _, _, _, _, _, _ => by simp [partsOkA] at h
  | (_, _) :: _, [], h, _, _, _, _, _, _, _, _ => by simp [partsOkA] at h

theorem mapM_some {α β : Type} (f : α → Option β) : ∀ (l : List α), (∀ a ∈ l, (f a).isSome = true) → ∃ bs, l.mapM f = some bs ∧ ∀ (i : Nat) a, l[i]? = some a → bs[i]? = f a
  | [], _ => ⟨[], rfl, fun i a h => by simp at h⟩
  | a :: l, h => by
    obtain ⟨b, hb⟩ := Option.isSome_iff_exists.1 (h a (by simp))
    obtain ⟨bs, h1, h2⟩ := mapM_some f l (fun a ha => h a (by simp [ha]))
    refine ⟨b :: bs, by simp [hb, h1], fun i a' ha => ?_⟩
    cases i with
    | zero => simp at ha; subst ha; simp [hb]
    | succ i => simpa using h2 i a' (by simpa using ha)

theorem ok_build {t : TypeId} {z : List AV} {ps : Array (Nat × Operand)} {qs : List (Nat × Nat × Opd)} (ho : o.op = .build t ps) (hb : buildIs P t z ps.toList qs = true) (hf : FillOk z (qs.map fun p => (p.1, p.2.1, r p.2.2))) :
    OpOk P o r H (Is (.agg (fillv z (qs.map fun p => (p.1, p.2.1, r p.2.2)))) H) :=
  .val fun E a hr hH => by
    simp only [buildIs, Bool.and_eq_true] at hb
    obtain ⟨hz, hb⟩ := hb
    obtain ⟨i, zv, hi, hzv, hc⟩ := zeroIs_run hz
    have mem : ∀ (j i : Nat) x, ps.toList[j]? = some (i, x) → x ∈ o.op.operands := fun j i x h => by
      simp only [ho, Op.operands]
      simp
      exact ⟨i, by simpa using Array.mem_of_getElem? (by simpa using h)⟩
    have key : ∀ place, (∀ (j i : Nat) x off sz y, ps.toList[j]? = some (i, x) → qs[j]? = some (off, sz, y) → place i = some (off, sz) ∧ opdOk x y = true) → ps.toList.length = qs.length →
        ∃ c', Instr.fill place zv.cells (ps.toList.map fun p => (p.1, a.eval p.2)) = some c' ∧ CellsRel E (fillv z (qs.map fun p => (p.1, p.2.1, r p.2.2))) c' := fun place hp hl => by
      refine fill_run place _ _ z zv.cells (hc E) (by simpa using hl) (fun j i v off sz a' h1 h2 => ?_) hf
      rw [List.getElem?_map] at h1 h2
      cases e1 : ps.toList[j]? with
      | none => simp [e1] at h1
      | some p =>
        cases e2 : qs[j]? with
        | none => simp [e2] at h2
        | some q =>
          obtain ⟨pi, px⟩ := p
          obtain ⟨q1, q2, q3⟩ := q
          simp [e1] at h1
          simp [e2] at h2
          obtain ⟨rfl, rfl⟩ := h1
          obtain ⟨rfl, rfl, rfl⟩ := h2
          obtain ⟨h3, h4⟩ := hp j pi px q1 q2 q3 e1 e2
          exact ⟨h3, hr.at_ (mem j pi px e1) h4⟩
    have fin : ∀ c', P.built t (ps.toList.map fun p => (p.1, a.eval p.2)) = some c' → CellsRel E (fillv z (qs.map fun p => (p.1, p.2.1, r p.2.2))) c' →
        ∃ v, (execOp a.eval o).run P E.w = .ok (.value v) E.w ∧ VRel E (.agg (fillv z (qs.map fun p => (p.1, p.2.1, r p.2.2)))) v := fun c' h1 h2 => by
      refine ⟨.agg c', ?_, ?_⟩
      · have := run_build E.w t (ps.map fun p => (p.1, a.eval p.2)) c' (by simpa using h1)
        simp [execOp, ho, this]
      · have e : c' = c'.toList.toArray := by simp
        rw [e]
        exact .agg (by simpa using h2.len) (fun v hv => by obtain ⟨i, hi⟩ := List.getElem?_of_mem hv; exact h2.one i v (by simpa using hi)) (fun i a v ha hv => h2.at_ i a v ha (by simpa using hv))
    split at hb
    · rename_i fs hfs
      simp only [Bool.and_eq_true] at hb
      obtain ⟨hall, hparts⟩ := hb
      obtain ⟨places, hpl, hpa⟩ := mapM_some (fun f : Field => (P.info? f.type).map fun i => (f.offset, i.size)) fs.toList (fun f hf => by
        have := Array.all_eq_true_iff_forall_mem.1 hall f (by simpa using hf)
        obtain ⟨j, hj⟩ := Option.isSome_iff_exists.1 this
        simp [hj])
      obtain ⟨c', h1, h2⟩ := key (places.toArray[·]?) (fun j i x off sz y e1 e2 => by
        obtain ⟨⟨f, h3, h4, h5⟩, h6⟩ := partsOk_at hparts j i x off sz y e1 e2
        obtain ⟨k, hk, hks⟩ := sizeIs_run h5
        have := hpa i f (by simpa using h3)
        simp [hk, hks, h4] at this
        exact ⟨by simpa using this, h6⟩) (partsOk_len hparts)
      exact fin c' (by simp only [Program.built, hi, hfs, hzv, hpl]; exact h1) h2
    · rename_i n e hfs
      split at hb
      · rename_i ie hie
        obtain ⟨c', h1, h2⟩ := key (fun i => some (i * ie.size, ie.size)) (fun j i x off sz y e1 e2 => by
          obtain ⟨h3, h4, h5⟩ := partsOkA_at hb j i x off sz y e1 e2
          exact ⟨by rw [h3, h4], h5⟩) (partsOkA_len hb)
        exact fin c' (by simp only [Program.built, hi, hfs, hzv, hie]; exact h1) h2
      · cases hb
    · cases hb
end
end Go.Proofs.Ytnjpfoblmomnlaa.Sx
