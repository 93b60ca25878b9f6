/- That operations which make and write memory do what the small language says: new variables, structs, literals, stores. No conditions: a kit of our own. -/
import Derived.Test.YteidimemlonjbaaSx7
namespace Go.Proofs.Yteidimemlonjbaa.Sx
open Go Go.RowKit
set_option linter.unusedVariables false
set_option linter.unusedSimpArgs false

theorem CellsRel.ext {E E' : Env} {m : Nat} (hm : E.n ≤ m) (x : Ext m E E') {cs : List AV} {vs : Array Value} (h : CellsRel E cs vs) : CellsRel E' cs vs :=
  ⟨h.len, h.one, fun i a v ha hv => (h.at_ i a v ha hv).ext hm x⟩
theorem CellsRel.get {E : Env} {cs : List AV} {vs : Array Value} (h : CellsRel E cs vs) {j : Nat} (hj : j < cs.length) : ∃ v, vs[j]? = some v ∧ v.oneCell' = true ∧ ∀ a, cs[j]? = some a → VRel E a v := by
  have hl := h.len
  have hv : vs[j]? = some (vs[j]'(by omega)) := Array.getElem?_eq_getElem (by omega)
  exact ⟨_, hv, h.one _ _ hv, fun a ha => h.at_ j a _ ha hv⟩

/-- One row, in a new block. -/
theorem ORel.one {E : Env} {cs : List AV} {vs : Array Value} {b : Nat} {e : TypeId} (h : CellsRel E cs vs) (hb : E.w.heap[b]? = some (.cells vs e (0, 0))) : ORel E (.rows cs.length [cs]) ⟨b, 0, cs.length⟩ := by
  refine .mk rfl hb (by have := h.len; simp; omega) (fun i r hi => ?_) (fun i r j hi hj => ?_)
  · cases i with
    | zero => simp at hi; subst hi; rfl
    | succ i => simp at hi
  · cases i with
    | zero =>
      simp at hi
      subst hi
      simpa using h.get hj
    | succ i => simp at hi

section
variable {P : Program} {o : Oper} {r : Opd → AV} {H : List AObj}

theorem OpOk.go {x : AV} {H' : List AObj} (h : ∀ E a, OpsRel E r a o → HRel E H → ∃ v E', ((execOp a.eval o).run P E.w = .ok (.value v) E'.w ∨ ((execOp a.eval o).run P E.w = .ok .skip E'.w ∧ v = undef)) ∧ VRel E' x v ∧ HRel E' H' ∧ Ext E.n E E') :
    OpOk P o r H (Is x H') := by
  intro E a next Q hr hH hn
  obtain ⟨v, E', hrun, hv, hH', hx⟩ := h E a hr hH
  rcases hrun with hrun | ⟨hrun, rfl⟩
  · simp only [Oper.wp, hrun, Oper.upon]
    exact hn v E' x H' hv hH' hx ⟨rfl, rfl⟩
  · simp only [Oper.wp, hrun, Oper.upon]
    exact hn undef E' x H' hv hH' hx ⟨rfl, rfl⟩

theorem constOk_one {v : Value} {a : AV} (h : constOk v a = true) : v.oneCell' = true := by
  unfold constOk at h
  split at h <;> first | rfl | (cases h; done)
theorem all2_cells {E : Env} {vs : Array Value} {z : List AV} (h : all2 constOk vs.toList z = true) : CellsRel E z vs :=
  ⟨by simpa using all2_len h, fun i v hv => by
    have hl := all2_len h
    have hlt := (Array.getElem?_eq_some_iff.1 hv).1
    have hz : z[i]? = some (z[i]'(by simp at hl; omega)) := List.getElem?_eq_getElem (by simp at hl; omega)
    exact constOk_one (all2_at h i v _ (by simpa using hv) hz), fun i a v ha hv => .const (all2_at h i v a (by simpa using hv) ha)⟩
theorem zeroIs_run {t : TypeId} {z : List AV} (h : zeroIs P t z = true) : ∃ i v, P.info? t = some i ∧ i.zero = some v ∧ ∀ E, CellsRel E z v.cells := by
  unfold zeroIs at h
  split at h
  · rename_i i hi
    split at h
    · rename_i v hv; exact ⟨i, v, hi, hv, fun E => all2_cells h⟩
    · cases h
  · cases h

/-- A new variable with these cells. -/
theorem new_one {E : Env} (hH : HRel E H) {cs : List AV} {vs : Array Value} (h : CellsRel E cs vs) (e : TypeId) : ∃ E', E'.w = E.w.alloc (.cells vs e) ∧ HRel E' (H ++ [.rows cs.length [cs]]) ∧ Ext E.n E E' ∧
    VRel E' (.ptr H.length 0 0) (.pointer (some ⟨E.w.heap.size, 0, none⟩)) := by
  have t : Turned E.w (E.w.alloc (.cells vs e)) (fun _ => False) := .push _ rfl rfl rfl rfl
  obtain ⟨h1, h2⟩ := hH.bear t (l := ⟨E.w.heap.size, 0, cs.length⟩) (Nat.le_refl _) (by simp) (o := .rows cs.length [cs]) (fun x => .one (e := e) (h.ext (Nat.le_refl _) x) (by
    show (E.w.heap.push _)[E.w.heap.size]? = _
    simp))
  refine ⟨_, rfl, h1, h2, ?_⟩
  refine .ptr (by simp [hH.n]) rfl (fun l hl => ?_)
  simp only [Sx.bear, hH.n, if_true] at hl
  cases hl
  simp

theorem ok_alloc {t : TypeId} {z : List AV} (ho : o.op = .alloc t) (hz : zeroIs P t z = true) : OpOk P o r H (Is (.ptr H.length 0 0) (H ++ [.rows z.length [z]])) :=
  .go fun E a hr hH => by
    obtain ⟨i, v, hi, hv, hc⟩ := zeroIs_run hz
    obtain ⟨E', hw, h1, h2, h3⟩ := new_one hH (hc E) t
    refine ⟨_, E', .inl ?_, h3, h1, h2⟩
    rw [hw]
    simp [execOp, ho, Instr.alloc, zeroValue, typeInfo, hi, hv, newVar, newRow]

theorem ok_box {t : TypeId} {x : Operand} {y : Opd} (ho : o.op = .box t x) (hx : opdOk x y = true) (hp : (cellsL (r y)).all AV.plain = true) : OpOk P o r H (Is (.ptr H.length 0 0) (H ++ [.rows (cellsL (r y)).length [cellsL (r y)]])) :=
  .go fun E a hr hH => by
    have h := hr.at_ (x := x) (by simp [ho, Op.operands]) hx
    obtain ⟨E', hw, h1, h2, h3⟩ := new_one hH (h.cells hp) t
    refine ⟨_, E', .inl ?_, h3, h1, h2⟩
    rw [hw]
    simp [execOp, ho, Instr.box, newVar, newRow]

/-! ### structs out of parts -/
def fillv (z : List AV) : List (Nat × Nat × AV) → List AV
  | [] => z
  | (off, _, v) :: rest => fillv (over z off (cellsL v)) rest
def FillOk (z : List AV) : List (Nat × Nat × AV) → Prop
  | [] => True
  | (off, size, v) :: rest => (cellsL v).length = size ∧ (cellsL v).all AV.plain = true ∧ off + size ≤ z.length ∧ FillOk (over z off (cellsL v)) rest
theorem fill1_iff {k : List AV → Prop} : ∀ (ps : List (Nat × Nat × AV)) (z : List AV), fill1 z ps k ↔ FillOk z ps ∧ k (fillv z ps)
  | [], z => by simp [fill1, FillOk, fillv]
  | (off, size, v) :: rest, z => by
    simp only [fill1, FillOk, fillv]
    rw [fill1_iff rest]
    constructor
    · rintro ⟨a, b, c, d, e⟩; exact ⟨⟨a, b, c, d⟩, e⟩
    · rintro ⟨⟨a, b, c, d⟩, e⟩; exact ⟨a, b, c, d, e⟩

theorem fill_run {E : Env} (place : Nat → Option (Nat × Nat)) : ∀ (ps : List (Nat × Value)) (qs : List (Nat × Nat × AV)) (z : List AV) (c : Array Value), CellsRel E z c → ps.length = qs.length →
    (∀ (j i : Nat) v off sz a, ps[j]? = some (i, v) → qs[j]? = some (off, sz, a) → place i = some (off, sz) ∧ VRel E a v) → FillOk z qs → ∃ c', Instr.fill place c ps = some c' ∧ CellsRel E (fillv z qs) c'
  | [], [], z, c, hc, _, _, _ => ⟨c, rfl, hc⟩
  | (i, v) :: ps, (off, sz, a) :: qs, z, c, hc, hl, hp, hf => by
    obtain ⟨h1, h2⟩ := hp 0 i v off sz a rfl rfl
    obtain ⟨f1, f2, f3, f4⟩ := hf
    have f1 : (cellsL a).length = sz := f1
    have f3 : off + sz ≤ z.length := f3
    have hv := h2.cells f2
    have hvl := hv.len
    have hcl := hc.len
    obtain ⟨c', e1, e2⟩ := fill_run place ps qs (over z off (cellsL a)) _ (hc.over hv (off := off) (by omega)) (by simpa using hl) (fun j i v off sz a h h' => hp (j + 1) i v off sz a (by simpa using h) (by simpa using h')) f4
    refine ⟨c', ?_, e2⟩
    simp only [Instr.fill, h1]
    rw [if_neg (by simp only [Bool.or_eq_true, decide_eq_true_eq]; omega)]
    exact e1
  | [], _ :: _, _, _, _, hl, _, _ => by simp at hl
  | _ :: _, [], _, _, _, hl, _, _ => by simp at hl

/-- The places of a struct's or an array's parts. -/
def buildIs (P : Program) (t : TypeId) (z : List AV) (ps : List (Nat × Operand)) (qs : List (Nat × Nat × Opd)) : Bool :=
  zeroIs P t z && match P.underlying t with
    | some (.struct fs) => fs.all (fun f => (P.info? f.type).isSome) && partsOk P fs ps qs
    | some (.array _ e) => (match P.info? e with | some i => partsOkA i.size ps qs | none => false)
    | _ => false

theorem partsOk_len {fs : Array Field} : ∀ {ps : List (Nat × Operand)} {qs : List (Nat × Nat × Opd)}, partsOk P fs ps qs = true → ps.length = qs.length
  | [], [], _ => rfl
  | (i, x) :: ps, (off, sz, y) :: qs, h => by simp only [partsOk, Bool.and_eq_true] at h; simp [partsOk_len h.2]
  | [], _ :: _, h => by simp [partsOk] at h
  | (_, _) :: _, [], h => by simp [partsOk] at h
theorem partsOk_at {fs : Array Field} : ∀ {ps : List (Nat × Operand)} {qs : List (Nat × Nat × Opd)}, partsOk P fs ps qs = true → ∀ (j i : Nat) x off sz y, ps[j]? = some (i, x) → qs[j]? = some (off, sz, y) →
    (∃ f, fs[i]? = some f ∧ f.offset = off ∧ sizeIs P f.type sz = true) ∧ opdOk x y = true
  | (i, x) :: ps, (off, sz, y) :: qs, h, 0, i', x', off', sz', y', h1, h2 => by
    simp only [partsOk, Bool.and_eq_true] at h
    simp at h1 h2
    obtain ⟨rfl, rfl⟩ := h1
    obtain ⟨rfl, rfl, rfl⟩ := h2
    obtain ⟨⟨h3, h4⟩, _⟩ := h
    split at h3
    · rename_i f hf; simp at h3; exact ⟨⟨f, hf, h3⟩, h4⟩
    · cases h3
  | (i, x) :: ps, (off, sz, y) :: qs, h, j + 1, i', x', off', sz', y', h1, h2 => by
    simp only [partsOk, Bool.and_eq_true] at h
    exact partsOk_at h.2 j i' x' off' sz' y' (by simpa using h1) (by simpa using h2)
  | [], [], _, j, _, _, _, _, _, h1, _ => by simp at h1
  | [], _ :: _, h, _, _, _, _, _, _, _, _ => by simp [partsOk] at h
  | (_, _) :: _, [], h, _, _, _, _, _, _, _, _ => by simp [partsOk] at h
theorem partsOkA_len {n : Nat} : ∀ {ps : List (Nat × Operand)} {qs : List (Nat × Nat × Opd)}, partsOkA n ps qs = true → ps.length = qs.length
  | [], [], _ => rfl
  | (i, x) :: ps, (off, sz, y) :: qs, h => by simp only [partsOkA, Bool.and_eq_true] at h; simp [partsOkA_len h.2]
  | [], _ :: _, h => by simp [partsOkA] at h
  | (_, _) :: _, [], h => by simp [partsOkA] at h
theorem partsOkA_at {n : Nat} : ∀ {ps : List (Nat × Operand)} {qs : List (Nat × Nat × Opd)}, partsOkA n ps qs = true → ∀ (j i : Nat) x off sz y, ps[j]? = some (i, x) → qs[j]? = some (off, sz, y) → i * n = off ∧ sz = n ∧ opdOk x y = true
  | (i, x) :: ps, (off, sz, y) :: qs, h, 0, i', x', off', sz', y', h1, h2 => by
    simp only [partsOkA, Bool.and_eq_true] at h
    simp at h1 h2
    obtain ⟨rfl, rfl⟩ := h1
    obtain ⟨rfl, rfl, rfl⟩ := h2
    obtain ⟨⟨⟨h3, h4⟩, h5⟩, _⟩ := h
    exact ⟨by simpa using h3, by simpa using h4, h5⟩
  | (i, x) :: ps, (off, sz, y) :: qs, h, j + 1, i', x', off', sz', y', h1, h2 => by
    simp only [partsOkA, Bool.and_eq_true] at h
    exact partsOkA_at h.2 j i' x' off' sz' y' (by simpa using h1) (by simpa using h2)
  | [], [], _, j, _, _, _, _, _, h1, _ => by simp at h1
  | [], _ :: _, h, _, _, _, _, _, _, _, _ => by simp [partsOkA] at h
  | (_, _) :: _, [], h, _, _, _, _, _, _, _, _ => by simp [partsOkA] at h

theorem mapM_some {α β : Type} (f : α → Option β) : ∀ (l : List α), (∀ a ∈ l, (f a).isSome = true) → ∃ bs, l.mapM f = some bs ∧ ∀ (i : Nat) a, l[i]? = some a → bs[i]? = f a
  | [], _ => ⟨[], rfl, fun i a h => by simp at h⟩
  | a :: l, h => by
    obtain ⟨b, hb⟩ := Option.isSome_iff_exists.1 (h a (by simp))
    obtain ⟨bs, h1, h2⟩ := mapM_some f l (fun a ha => h a (by simp [ha]))
    refine ⟨b :: bs, by simp [hb, h1], fun i a' ha => ?_⟩
    cases i with
    | zero => simp at ha; subst ha; simp [hb]
    | succ i => simpa using h2 i a' (by simpa using ha)

theorem ok_build {t : TypeId} {z : List AV} {ps : Array (Nat × Operand)} {qs : List (Nat × Nat × Opd)} (ho : o.op = .build t ps) (hb : buildIs P t z ps.toList qs = true) (hf : FillOk z (qs.map fun p => (p.1, p.2.1, r p.2.2))) :
    OpOk P o r H (Is (.agg (fillv z (qs.map fun p => (p.1, p.2.1, r p.2.2)))) H) :=
  .val fun E a hr hH => by
    simp only [buildIs, Bool.and_eq_true] at hb
    obtain ⟨hz, hb⟩ := hb
    obtain ⟨i, zv, hi, hzv, hc⟩ := zeroIs_run hz
    have mem : ∀ (j i : Nat) x, ps.toList[j]? = some (i, x) → x ∈ o.op.operands := fun j i x h => by
      simp only [ho, Op.operands]
      simp
      exact ⟨i, by simpa using Array.mem_of_getElem? (by simpa using h)⟩
    have key : ∀ place, (∀ (j i : Nat) x off sz y, ps.toList[j]? = some (i, x) → qs[j]? = some (off, sz, y) → place i = some (off, sz) ∧ opdOk x y = true) → ps.toList.length = qs.length →
        ∃ c', Instr.fill place zv.cells (ps.toList.map fun p => (p.1, a.eval p.2)) = some c' ∧ CellsRel E (fillv z (qs.map fun p => (p.1, p.2.1, r p.2.2))) c' := fun place hp hl => by
      refine fill_run place _ _ z zv.cells (hc E) (by simpa using hl) (fun j i v off sz a' h1 h2 => ?_) hf
      rw [List.getElem?_map] at h1 h2
      cases e1 : ps.toList[j]? with
      | none => simp [e1] at h1
      | some p =>
        cases e2 : qs[j]? with
        | none => simp [e2] at h2
        | some q =>
          obtain ⟨pi, px⟩ := p
          obtain ⟨q1, q2, q3⟩ := q
          simp [e1] at h1
          simp [e2] at h2
          obtain ⟨rfl, rfl⟩ := h1
          obtain ⟨rfl, rfl, rfl⟩ := h2
          obtain ⟨h3, h4⟩ := hp j pi px q1 q2 q3 e1 e2
          exact ⟨h3, hr.at_ (mem j pi px e1) h4⟩
    have fin : ∀ c', P.built t (ps.toList.map fun p => (p.1, a.eval p.2)) = some c' → CellsRel E (fillv z (qs.map fun p => (p.1, p.2.1, r p.2.2))) c' →
        ∃ v, (execOp a.eval o).run P E.w = .ok (.value v) E.w ∧ VRel E (.agg (fillv z (qs.map fun p => (p.1, p.2.1, r p.2.2)))) v := fun c' h1 h2 => by
      refine ⟨.agg c', ?_, ?_⟩
      · have := run_build E.w t (ps.map fun p => (p.1, a.eval p.2)) c' (by simpa using h1)
        simp [execOp, ho, this]
      · have e : c' = c'.toList.toArray := by simp
        rw [e]
        exact .agg (by simpa using h2.len) (fun v hv => by obtain ⟨i, hi⟩ := List.getElem?_of_mem hv; exact h2.one i v (by simpa using hi)) (fun i a v ha hv => h2.at_ i a v ha (by simpa using hv))
    split at hb
    · rename_i fs hfs
      simp only [Bool.and_eq_true] at hb
      obtain ⟨hall, hparts⟩ := hb
      obtain ⟨places, hpl, hpa⟩ := mapM_some (fun f : Field => (P.info? f.type).map fun i => (f.offset, i.size)) fs.toList (fun f hf => by
        have := Array.all_eq_true_iff_forall_mem.1 hall f (by simpa using hf)
        obtain ⟨j, hj⟩ := Option.isSome_iff_exists.1 this
        simp [hj])
      obtain ⟨c', h1, h2⟩ := key (places.toArray[·]?) (fun j i x off sz y e1 e2 => by
        obtain ⟨⟨f, h3, h4, h5⟩, h6⟩ := partsOk_at hparts j i x off sz y e1 e2
        obtain ⟨k, hk, hks⟩ := sizeIs_run h5
        have := hpa i f (by simpa using h3)
        simp [hk, hks, h4] at this
        exact ⟨by simpa using this, h6⟩) (partsOk_len hparts)
      exact fin c' (by simp only [Program.built, hi, hfs, hzv, hpl]; exact h1) h2
    · rename_i n e hfs
      split at hb
      · rename_i ie hie
        obtain ⟨c', h1, h2⟩ := key (fun i => some (i * ie.size, ie.size)) (fun j i x off sz y e1 e2 => by
          obtain ⟨h3, h4, h5⟩ := partsOkA_at hb j i x off sz y e1 e2
          exact ⟨by rw [h3, h4], h5⟩) (partsOkA_len hb)
        exact fin c' (by simp only [Program.built, hi, hfs, hzv, hie]; exact h1) h2
      · cases hb
    · cases hb
end
end Go.Proofs.Yteidimemlonjbaa.Sx
