/- Which operation of the small language stands for which operation of the machine ('okOp'), and that it does what it says: operations that compute, read and make. No conditions: a kit of our own. -/
import Derived.Test.YtnjpfoblmomnlaaSx2
namespace Go.Proofs.Ytnjpfoblmomnlaa.Sx
open Go Go.RowKit
set_option linter.unusedVariables false
set_option linter.unusedSimpArgs false

def constOk : Value → AV → Bool
  | .bool b, .bool c => b == c
  | .int k n, .int j m => k == j && n == m
  | .string s, .str t => s.data.toList == t.data.toList
  | .pointer none, .nilp => true
  | .slice none 0 0, .nils => true
  | .map none, .nilm => true
  | .nilFunc, .val .nilFunc => true
  | .float k b, .val (.float j c) => k == j && b == c
  | .complex k a b, .val (.complex j c d) => k == j && a == c && b == d
  | _, _ => false
def opdOk : Operand → Opd → Bool
  | .tmp t, .t n => t == n
  | .tmp t, .o n => t == n
  | .const v, .c a => constOk v a
  | .func f, .c (.fn g [] []) => f == g
  | _, _ => false
def all2 {α β : Type} (p : α → β → Bool) : List α → List β → Bool
  | [], [] => true
  | a :: as, b :: bs => p a b && all2 p as bs
  | _, _ => false
def sizeIs (P : Program) (t : TypeId) (n : Nat) : Bool := match P.info? t with | some i => i.size == n | none => false
def zeroIs (P : Program) (t : TypeId) (z : List AV) : Bool := match P.info? t with | some i => (match i.zero with | some v => all2 constOk v.cells.toList z | none => false) | none => false
def zero1Is (P : Program) (t : TypeId) (z : AV) : Bool := match P.info? t with
  | some i => (match i.zero with | some (.agg cs) => (match z with | .agg zs => all2 constOk cs.toList zs | _ => false) | some v => constOk v z | none => false)
  | none => false
def aggIs (P : Program) (t : TypeId) (g : Option Nat) : Bool := match P.underlying t, g with
  | some (.struct _), some n | some (.array _ _), some n => sizeIs P t n
  | some (.struct _), none | some (.array _ _), none => false
  | some _, none => true
  | _, _ => false
def sliceIs (P : Program) (t : TypeId) (sz : Nat) : Bool := match P.underlying t with | some (.slice e) => sizeIs P e sz | _ => false
def partsOk (P : Program) (fields : Array Field) : List (Nat × Operand) → List (Nat × Nat × Opd) → Bool
  | [], [] => true
  | (i, x) :: ps, (off, sz, y) :: qs => (match fields[i]? with | some f => f.offset == off && sizeIs P f.type sz | none => false) && opdOk x y && partsOk P fields ps qs
  | _, _ => false
def partsOkA (esz : Nat) : List (Nat × Operand) → List (Nat × Nat × Opd) → Bool
  | [], [] => true
  | (i, x) :: ps, (off, sz, y) :: qs => i * esz == off && sz == esz && opdOk x y && partsOkA esz ps qs
  | _, _ => false
def rowOk : Nat → List (Nat × Operand) → List Opd → Bool
  | _, [], [] => true
  | k, (i, x) :: ps, y :: qs => i == k && opdOk x y && rowOk (k + 1) ps qs
  | _, _, _ => false

inductive OpsRel (E : Env) (r : Opd → AV) (a : Act) (o : Oper) : Prop where
  | mk (h : ∀ x y, x ∈ o.op.operands → opdOk x y = true → VRel E (r y) (a.eval x))

/-- The operation runs, from wherever its operands and the heap are as told, and ends as told. -/
def OpOk (P : Program) (o : Oper) (r : Opd → AV) (H : List AObj) (K : AV → List AObj → Prop) : Prop :=
  ∀ (E : Env) (a : Act) (next : Act → World → Prop) (Q : Exit → Act → World → Prop), OpsRel E r a o → HRel E H →
    (∀ v E' x H', VRel E' x v → HRel E' H' → Ext E.n E E' → K x H' → next (a.put o.dst v) E'.w) → o.wp P a E.w next Q

/-- What comes to one value, the world as it was. -/
theorem OpOk.pure {P : Program} {o : Oper} {r : Opd → AV} {H : List AObj} {K : AV → List AObj → Prop}
    (h : ∀ E a, OpsRel E r a o → HRel E H → ∃ v x, (execOp a.eval o).run P E.w = .ok (.value v) E.w ∧ VRel E x v ∧ K x H) : OpOk P o r H K := by
  intro E a next Q hr hH hn
  obtain ⟨v, x, hrun, hv, hK⟩ := h E a hr hH
  simp only [Oper.wp, hrun, Oper.upon]
  exact hn v E x H hv hH (Ext.refl (Nat.le_refl _)) hK

theorem VRel.const {E : Env} {v : Value} {a : AV} (h : constOk v a = true) : VRel E a v := by
  unfold constOk at h
  split at h
  · simp at h; subst h; exact .bool _
  · simp at h; obtain ⟨rfl, rfl⟩ := h; exact .int _ _
  · rename_i s t
    have e : s = t := by
      cases s; cases t
      simp only [beq_iff_eq] at h
      congr 1
      exact Array.ext' h
    subst e; exact .str _
  · exact .nilp
  · exact .nils
  · exact .nilm
  · exact .val _
  · simp at h; obtain ⟨rfl, rfl⟩ := h; exact .val _
  · simp at h; obtain ⟨⟨rfl, rfl⟩, rfl⟩ := h; exact .val _
  · cases h

theorem OpsRel.at_ {E : Env} {r : Opd → AV} {a : Act} {o : Oper} (h : OpsRel E r a o) {x : Operand} {y : Opd} (hx : x ∈ o.op.operands) (hy : opdOk x y = true) : VRel E (r y) (a.eval x) := by
  cases h with | mk h => exact h x y hx hy

abbrev Is (x : AV) (H : List AObj) : AV → List AObj → Prop := fun v h => v = x ∧ h = H

theorem OpOk.val {P : Program} {o : Oper} {r : Opd → AV} {H : List AObj} {x : AV}
    (h : ∀ E a, OpsRel E r a o → HRel E H → ∃ v, (execOp a.eval o).run P E.w = .ok (.value v) E.w ∧ VRel E x v) : OpOk P o r H (Is x H) :=
  OpOk.pure fun E a hr hH => let ⟨v, h1, h2⟩ := h E a hr hH; ⟨v, x, h1, h2, rfl, rfl⟩

theorem sizeIs_run {P : Program} {t : TypeId} {n : Nat} (h : sizeIs P t n = true) : ∃ i, P.info? t = some i ∧ i.size = n := by
  unfold sizeIs at h
  split at h
  · rename_i i hi; exact ⟨i, hi, by simpa using h⟩
  · cases h

theorem run_sizeOf {P : Program} {t : TypeId} {n : Nat} (h : sizeIs P t n = true) (w : World) : (sizeOf t).run P w = .ok n w := by
  obtain ⟨i, hi, hn⟩ := sizeIs_run h
  simp [sizeOf, typeInfo, hi, hn]

/-! ### what is read -/
theorem rd_iff {g : Option Nat} {row : List AV} {off : Nat} {k : AV → Prop} : rd g row off k ↔ ∃ x, rdv g row off = some x ∧ k x := by
  cases g with
  | none =>
    simp only [rd, rdv]
    cases h : row[off]? with
    | none => simp
    | some v => simp
  | some n =>
    simp only [rd, rdv]
    by_cases h : off + n ≤ row.length
    · simp [h]
    · simp [h]

/-- A row's cells lie there. -/
def Reads (E : Env) (row : List AV) (b o : Nat) : Prop := ∀ j, j < row.length → ∃ c, E.w.cell? ⟨b, o + j, none⟩ = some c ∧ c.oneCell' = true ∧ ∀ a, row[j]? = some a → VRel E a c

theorem HRel.reads {E : Env} {H : List AObj} (hH : HRel E H) {id i sz : Nat} {rs : List (List AV)} {row : List AV} (ho : H[id]? = some (.rows sz rs)) (hi : rs[i]? = some row) :
    ∃ l, E.s id = some l ∧ l.sz = sz ∧ row.length = sz ∧ Reads E row l.b (l.base + i * sz) := by
  obtain ⟨l, hl, hr⟩ := hH.get ho (by simp)
  cases hr with
  | rows cs e hs hb hlen hr h1 h =>
    have hrow := hr i row hi
    have hi' := (List.getElem?_eq_some_iff.1 hi).1
    have hm : i * sz + sz ≤ rs.length * sz := by rw [← Nat.succ_mul]; exact Nat.mul_le_mul_right _ hi'
    refine ⟨l, hl, hs, hrow, fun j hj => ?_⟩
    have hlt : l.base + i * sz + j < cs.size := by omega
    refine ⟨cs[l.base + i * sz + j], by simp [World.cell?, hb, hlt], h1 (i * sz + j) _ (by omega) (by rw [← Nat.add_assoc]; exact Array.getElem?_eq_getElem hlt), fun a ha => h i row j a _ hi ha (Array.getElem?_eq_getElem hlt)⟩

theorem VRel.vp_inv {E : Env} {row : List AV} {off : Nat} {v : Value} (h : VRel E (.vp row off) v) : ∃ b o, v = .pointer (some ⟨b, o + off, none⟩) ∧ E.free b ∧ Reads E row b o := by
  cases h with
  | vp c hb hc h1 h => exact ⟨_, _, rfl, hb, fun j hj => ⟨c j, hc j hj, h1 j hj, fun a ha => h j a ha⟩⟩

theorem add_addr (b o n : Nat) : (⟨b, o, none⟩ : Addr).add n = ⟨b, o + n, none⟩ := by unfold Addr.add; split <;> simp_all

theorem run_isAgg {P : Program} {t : TypeId} {g : Option Nat} (h : aggIs P t g = true) (w : World) : (isAgg t).run P w = .ok g.isSome w ∧ ∀ n, g = some n → sizeIs P t n = true := by
  unfold aggIs at h
  cases hd : P.underlying t with
  | none => simp [hd] at h
  | some d =>
    cases d <;> cases g <;> simp [hd] at h <;> simp [isAgg, underlying, hd] <;> exact h

theorem run_loadVar {P : Program} {E : Env} {t : TypeId} {g : Option Nat} {row : List AV} {b o off : Nat} {x : AV} (hg : aggIs P t g = true) (hr : Reads E row b o) (hx : rdv g row off = some x) :
    ∃ v, (loadVar t ⟨b, o + off, none⟩).run P E.w = .ok v E.w ∧ VRel E x v := by
  obtain ⟨h1, h2⟩ := run_isAgg hg E.w
  cases g with
  | none =>
    simp only [rdv] at hx
    have hlt := (List.getElem?_eq_some_iff.1 hx).1
    obtain ⟨c, hc, _, hv⟩ := hr off hlt
    exact ⟨c, by simp [loadVar, h1, hc], hv x hx⟩
  | some n =>
    simp only [rdv] at hx
    split at hx
    · rename_i hle
      cases hx
      have hex : ∀ j, j < n → ∃ c, E.w.cell? ⟨b, o + off + j, none⟩ = some c ∧ c.oneCell' = true ∧ ∀ a, row[off + j]? = some a → VRel E a c := fun j hj => by
        have := hr (off + j) (by omega)
        rwa [← Nat.add_assoc] at this
      have hf : ∃ f : Nat → Value, ∀ j, j < n → E.w.cell? ⟨b, o + off + j, none⟩ = some (f j) ∧ (f j).oneCell' = true ∧ ∀ a, row[off + j]? = some a → VRel E a (f j) := by
        refine ⟨fun j => if h : j < n then (hex j h).choose else undef, fun j hj => ?_⟩
        simp only [hj, dif_pos]
        exact (hex j hj).choose_spec
      obtain ⟨f, hf⟩ := hf
      have hc := run_loadCells (P := P) E.w ⟨b, o + off, none⟩ n f (fun j hj => by rw [add_addr]; exact (hf j hj).1)
      refine ⟨.agg ((List.range n).map f).toArray, by simp [loadVar, h1, run_sizeOf (h2 n rfl), hc], ?_⟩
      refine .agg (by simp; omega) (fun v hv => ?_) (fun i a v ha hv => ?_)
      · obtain ⟨j, hj, rfl⟩ := List.mem_map.1 hv
        exact (hf j (List.mem_range.1 hj)).2.1
      · have hi : i < n := by
          have := (List.getElem?_eq_some_iff.1 hv).1
          simpa using this
        simp [hi] at hv
        subst hv
        refine (hf i hi).2.2 a ?_
        rw [List.getElem?_take] at ha
        simp [hi] at ha
        simpa using ha
    · cases hx

/-! ### operations that come to a value -/
section
variable {P : Program} {o : Oper} {r : Opd → AV} {H : List AObj}

theorem ok_mv {x : Operand} {y : Opd} (ho : o.op = .move x ∨ o.op = .assign x) (hx : opdOk x y = true) : OpOk P o r H (Is (r y) H) :=
  .val fun E a hr _ => ⟨a.eval x, by rcases ho with ho | ho <;> simp [execOp, ho], hr.at_ (by rcases ho with ho | ho <;> simp [ho, Op.operands]) hx⟩

theorem VRel.isB {E : Env} {a : AV} {v : Value} (h : VRel E a v) (hb : isB a) : v = .bool (bval a) := by
  cases h <;> simp only [Sx.isB] at hb
  · rfl
  · rename_i c a h h'
    cases a <;> simp only at hb
    have h := h hb
    cases h
    rfl
theorem ok_pick {c x y : Operand} {c' x' y' : Opd} {p : Bool} (ho : o.op = .pick c x y) (hc : opdOk c c' = true) (hx : opdOk x x' = true) (hy : opdOk y y' = true) (hb : r c' = .bool p)
    (h1 : p = true → isB (r x')) (h2 : p = false → isB (r y')) : OpOk P o r H (Is (.bool (bif p then bval (r x') else bval (r y'))) H) :=
  .val fun E a hr _ => by
    have h := hr.at_ (x := c) (by simp [ho, Op.operands]) hc
    rw [hb] at h
    cases hv : a.eval c <;> rw [hv] at h <;> cases h
    cases p
    · have h3 := (hr.at_ (x := y) (by simp [ho, Op.operands]) hy).isB (h2 rfl)
      exact ⟨a.eval y, by simp [execOp, ho, hv, asBool], by rw [h3]; exact .bool _⟩
    · have h3 := (hr.at_ (x := x) (by simp [ho, Op.operands]) hx).isB (h1 rfl)
      exact ⟨a.eval x, by simp [execOp, ho, hv, asBool], by rw [h3]; exact .bool _⟩

theorem ok_ld_ptr {t : TypeId} {x : Operand} {y : Opd} {g : Option Nat} {id i off sz : Nat} {rs : List (List AV)} {row : List AV} {z : AV} (ho : o.op = .load t x) (hx : opdOk x y = true) (hg : aggIs P t g = true)
    (hy : r y = .ptr id i off) (hid : H[id]? = some (.rows sz rs)) (hi : rs[i]? = some row) (hz : rdv g row off = some z) : OpOk P o r H (Is z H) :=
  .val fun E a hr hH => by
    have h := hr.at_ (x := x) (by simp [ho, Op.operands]) hx
    rw [hy] at h
    obtain ⟨l, hl, hs, _, hrd⟩ := hH.reads hid hi
    cases h with
    | ptr _ _ h =>
      have hv := h l hl
      subst hs
      obtain ⟨v, h1, h2⟩ := run_loadVar hg hrd hz
      exact ⟨v, by simp [execOp, ho, hv, Instr.loadAt, Instr.sureAddr, h1], h2⟩

theorem ok_ld_vp {t : TypeId} {x : Operand} {y : Opd} {g : Option Nat} {off : Nat} {row : List AV} {z : AV} (ho : o.op = .load t x) (hx : opdOk x y = true) (hg : aggIs P t g = true)
    (hy : r y = .vp row off) (hz : rdv g row off = some z) : OpOk P o r H (Is z H) :=
  .val fun E a hr hH => by
    have h := hr.at_ (x := x) (by simp [ho, Op.operands]) hx
    rw [hy] at h
    obtain ⟨b, o', hv, _, hrd⟩ := h.vp_inv
    obtain ⟨v, h1, h2⟩ := run_loadVar hg hrd hz
    exact ⟨v, by simp [execOp, ho, hv, Instr.loadAt, Instr.sureAddr, h1], h2⟩

/-- A live name's pointer is what it is. -/
theorem VRel.ptr_inv {E : Env} {id i off : Nat} {v : Value} {ob : AObj} (hH : HRel E H) (h : VRel E (.ptr id i off) v) (ho : H[id]? = some ob) (hd : ob ≠ .dead) :
    ∃ l, E.s id = some l ∧ v = .pointer (some ⟨l.b, l.base + i * l.sz + off, none⟩) ∧ ORel E ob l := by
  obtain ⟨l, hl, hr⟩ := hH.get ho hd
  cases h with
  | ptr _ _ h => exact ⟨l, hl, h l hl, hr⟩
theorem VRel.ptr_mk {E : Env} {id i off : Nat} {v : Value} {l : Loc} (hH : HRel E H) (hl : E.s id = some l) (hv : v = .pointer (some ⟨l.b, l.base + i * l.sz + off, none⟩)) : VRel E (.ptr id i off) v :=
  .ptr (hH.id_lt hl) (by rw [hv]; rfl) (fun l' hl' => by rw [hl] at hl'; cases hl'; exact hv)

theorem ok_nilc_ptr {x : Operand} {y : Opd} {id i off : Nat} {ob : AObj} (ho : o.op = .nilCheck x) (hx : opdOk x y = true) (hy : r y = .ptr id i off) (hid : H[id]? = some ob) (hd : ob ≠ .dead) :
    OpOk P o r H (Is (.ptr id i off) H) :=
  .val fun E a hr hH => by
    have h := hr.at_ (x := x) (by simp [ho, Op.operands]) hx
    rw [hy] at h
    obtain ⟨l, hl, hv, _⟩ := h.ptr_inv hH hid hd
    exact ⟨_, by simp [execOp, ho, hv], .ptr_mk hH hl rfl⟩
theorem ok_nilc_vp {x : Operand} {y : Opd} {off : Nat} {row : List AV} (ho : o.op = .nilCheck x) (hx : opdOk x y = true) (hy : r y = .vp row off) : OpOk P o r H (Is (.vp row off) H) :=
  .val fun E a hr hH => by
    have h := hr.at_ (x := x) (by simp [ho, Op.operands]) hx
    rw [hy] at h
    obtain ⟨b, o', hv, _, _⟩ := h.vp_inv
    exact ⟨.pointer (some ⟨b, o' + off, none⟩), by simp [execOp, ho, hv], by rw [hv] at h; exact h⟩
theorem ok_nilc_fn {x : Operand} {y : Opd} {f : FuncId} {cs fs : List AV} (ho : o.op = .nilCheck x) (hx : opdOk x y = true) (hy : r y = .fn f cs fs) : OpOk P o r H (Is (.fn f cs fs) H) :=
  .val fun E a hr hH => by
    have h := hr.at_ (x := x) (by simp [ho, Op.operands]) hx
    rw [hy] at h
    cases hv : a.eval x <;> rw [hv] at h <;> cases h
    rename_i vs ws hl h5 hm h6
    exact ⟨.func (.func f) vs.toArray ws.toArray, by simp [execOp, ho, hv], .fn hl hm h5 h6⟩

def fieldIs (P : Program) (s : TypeId) (f off : Nat) : Bool := match P.underlying s with
  | some (.struct fs) => (match fs[f]? with | some fd => fd.offset == off && (match P.info? fd.type with | some i => i.size != 0 | none => false) | none => false)
  | _ => false
theorem run_fieldAt {s : TypeId} {f off b o' : Nat} (h : fieldIs P s f off = true) (w : World) : (Instr.fieldAt s (.pointer (some ⟨b, o', none⟩)) f).run P w = .ok (.pointer (some ⟨b, o' + off, none⟩)) w := by
  unfold fieldIs at h
  split at h
  · rename_i fs hfs
    split at h
    · rename_i fd hfd
      simp only [Bool.and_eq_true, beq_iff_eq] at h
      obtain ⟨h1, h2⟩ := h
      split at h2
      · rename_i i hi
        have hz : ¬ i.size = 0 := by simpa using h2
        simp [Instr.fieldAt, underlying, hfs, hfd, Instr.sureAddr, fieldPlace, sizeOf, typeInfo, hi, hz, add_addr, h1]
      · cases h2
    · cases h
  · cases h

theorem ok_fa_ptr {s : TypeId} {x : Operand} {y : Opd} {f off0 : Nat} {id i off : Nat} {ob : AObj} (ho : o.op = .fieldAddr s x f) (hx : opdOk x y = true) (hf : fieldIs P s f off0 = true) (hy : r y = .ptr id i off) (hid : H[id]? = some ob)
    (hd : ob ≠ .dead) : OpOk P o r H (Is (.ptr id i (off + off0)) H) :=
  .val fun E a hr hH => by
    have h := hr.at_ (x := x) (by simp [ho, Op.operands]) hx
    rw [hy] at h
    obtain ⟨l, hl, hv, _⟩ := h.ptr_inv hH hid hd
    exact ⟨.pointer (some ⟨l.b, l.base + i * l.sz + off + off0, none⟩), by simp [execOp, ho, hv, run_fieldAt hf], .ptr_mk hH hl (by simp [Nat.add_assoc])⟩
theorem ok_fa_vp {s : TypeId} {x : Operand} {y : Opd} {f off0 : Nat} {off : Nat} {row : List AV} (ho : o.op = .fieldAddr s x f) (hx : opdOk x y = true) (hf : fieldIs P s f off0 = true) (hy : r y = .vp row off) :
    OpOk P o r H (Is (.vp row (off + off0)) H) :=
  .val fun E a hr hH => by
    have h := hr.at_ (x := x) (by simp [ho, Op.operands]) hx
    rw [hy] at h
    cases hv : a.eval x <;> rw [hv] at h <;> cases h
    rename_i c hb hc h1 h
    rename_i b o'
    exact ⟨.pointer (some ⟨b, o' + off + off0, none⟩), by simp [execOp, ho, hv, run_fieldAt hf], by rw [Nat.add_assoc]; exact .vp c hb hc h1 h⟩
end
end Go.Proofs.Ytnjpfoblmomnlaa.Sx
/- That further operations do what the small language says: indices, numbers, comparisons, parts of values. No conditions: a kit of our own. -/
namespace Go.Proofs.Ytnjpfoblmomnlaa.Sx
open Go Go.RowKit
set_option linter.unusedVariables false
set_option linter.unusedSimpArgs false
section
variable {P : Program} {o : Oper} {r : Opd → AV} {H : List AObj}

theorem run_part {t : TypeId} {g : Option Nat} {cs : List AV} {vs : List Value} {off : Nat} {z : AV} {E : Env} (hg : aggIs P t g = true) (hl : vs.length = cs.length) (h1 : ∀ v ∈ vs, v.oneCell' = true)
    (h : ∀ (i : Nat) (a : AV) (v : Value), cs[i]? = some a → vs[i]? = some v → VRel E a v) (hz : rdv g cs off = some z) : ∃ v, (part t vs.toArray off).run P E.w = .ok v E.w ∧ VRel E z v := by
  obtain ⟨ha, hb⟩ := run_isAgg hg E.w
  cases g with
  | none =>
    simp only [rdv] at hz
    have hlt := (List.getElem?_eq_some_iff.1 hz).1
    have hv : vs[off]? = some (vs[off]'(by omega)) := List.getElem?_eq_getElem (by omega)
    exact ⟨vs[off]'(by omega), by simp [part, ha, hv], h off z _ hz hv⟩
  | some n =>
    simp only [rdv] at hz
    split at hz
    · rename_i hle
      cases hz
      refine ⟨.agg ((vs.drop off).take n).toArray, by simp [part, ha, run_sizeOf (hb n rfl), List.extract_eq_take_drop], ?_⟩
      refine .agg (by simp; omega) (fun v hv => h1 v (List.mem_of_mem_drop (List.mem_of_mem_take hv))) (fun i a v ha hv => ?_)
      rw [List.getElem?_take] at ha hv
      split at ha
      · rename_i hi
        simp only [hi, if_true] at hv
        rw [List.getElem?_drop] at ha hv
        exact h _ _ _ ha hv
      · cases ha
    · cases hz

theorem VRel.agg_inv {E : Env} {cs : List AV} {v : Value} (h : VRel E (.agg cs) v) : ∃ vs : List Value, v = .agg vs.toArray ∧ vs.length = cs.length ∧ (∀ v ∈ vs, v.oneCell' = true) ∧
    ∀ (i : Nat) (a : AV) (v : Value), cs[i]? = some a → vs[i]? = some v → VRel E a v := by
  cases h with | agg hl h1 h => exact ⟨_, rfl, hl, h1, h⟩
theorem VRel.tup_inv {E : Env} {cs : List AV} {v : Value} (h : VRel E (.tup cs) v) : ∃ vs : List Value, v = .tuple vs.toArray ∧ VRels E cs vs := by
  cases h with | tup hl h => exact ⟨_, rfl, hl, h⟩
theorem VRel.fn_inv {E : Env} {f : FuncId} {cs fs : List AV} {v : Value} (h : VRel E (.fn f cs fs) v) : ∃ vs ws : List Value, v = .func (.func f) vs.toArray ws.toArray ∧ VRels E cs vs ∧ VRels E fs ws := by
  cases h with | fn hl hm h h' => exact ⟨_, _, rfl, ⟨hl, h⟩, ⟨hm, h'⟩⟩
def fldIs (P : Program) (s : TypeId) (f off : Nat) (g : Option Nat) : Bool := match P.underlying s with
  | some (.struct fs) => (match fs[f]? with | some fd => fd.offset == off && aggIs P fd.type g | none => false)
  | _ => false
theorem ok_fld {s : TypeId} {x : Operand} {y : Opd} {f off : Nat} {g : Option Nat} {cs : List AV} {z : AV} (ho : o.op = .field s x f) (hx : opdOk x y = true) (hf : fldIs P s f off g = true) (hy : r y = .agg cs)
    (hz : rdv g cs off = some z) : OpOk P o r H (Is z H) :=
  .val fun E a hr hH => by
    have h := hr.at_ (x := x) (by simp [ho, Op.operands]) hx
    rw [hy] at h
    obtain ⟨vs, hv, hl, h1, h⟩ := h.agg_inv
    unfold fldIs at hf
    split at hf
    · rename_i fs hfs
      split at hf
      · rename_i fd hfd
        simp only [Bool.and_eq_true, beq_iff_eq] at hf
        obtain ⟨v, h2, h3⟩ := run_part hf.2 hl h1 h hz
        exact ⟨v, by simp [execOp, ho, hv, Instr.field, underlying, hfs, hfd, asAgg, hf.1, h2], h3⟩
      · cases hf
    · cases hf

theorem sliceIs_run {t : TypeId} {sz : Nat} (h : sliceIs P t sz = true) : ∃ e, P.underlying t = some (.slice e) ∧ sizeIs P e sz = true := by
  unfold sliceIs at h
  split at h
  · rename_i e he; exact ⟨e, he, h⟩
  · cases h

theorem run_indexAt_sl {t : TypeId} {sz : Nat} (h : sliceIs P t sz = true) (w : World) (b o' len cap : Nat) (k : IntKind) (n : Int) (h0 : 0 ≤ n) (h1 : n < len) :
    (Instr.indexAt t (.slice (some ⟨b, o', none⟩) len cap) (.int k n)).run P w = .ok (.pointer (some ⟨b, o' + n.toNat * sz, none⟩)) w := by
  obtain ⟨e, he, hs⟩ := sliceIs_run h
  simp [Instr.indexAt, underlying, he, asIntOf, h0, h1, run_sizeOf hs, add_addr]

theorem VRel.sl_inv {E : Env} {id i len : Nat} {v : Value} {ob : AObj} (hH : HRel E H) (h : VRel E (.sl id i len) v) (ho : H[id]? = some ob) (hd : ob ≠ .dead) :
    ∃ l cap i', E.s id = some l ∧ v = .slice (some ⟨l.b, l.base + i' * l.sz, none⟩) len cap ∧ len ≤ cap ∧ E.room l.b (l.base + (i' + cap) * l.sz) ∧ ORel E ob l ∧ (i' = i ∨ cap = 0) := by
  obtain ⟨l, hl, hr⟩ := hH.get ho hd
  cases h with
  | sl _ _ h =>
    obtain ⟨cap, i', h1, h2, h3, h4⟩ := h l hl
    exact ⟨l, cap, i', hl, h1, h2, h3, hr, h4⟩

theorem VRel.int_inv {E : Env} {k : IntKind} {n : Int} {v : Value} (h : VRel E (.int k n) v) : v = .int k n := by cases h; rfl
theorem VRel.bool_inv {E : Env} {b : Bool} {v : Value} (h : VRel E (.bool b) v) : v = .bool b := by cases h; rfl

theorem ok_ia_sl {t : TypeId} {x i : Operand} {y j : Opd} {sz id r0 len : Nat} {k : IntKind} {n : Int} {rs : List (List AV)} (ho : o.op = .indexAddr t x i) (hx : opdOk x y = true) (hi : opdOk i j = true)
    (ht : sliceIs P t sz = true) (hy : r y = .sl id r0 len) (hj : r j = .int k n) (hid : H[id]? = some (.rows sz rs)) (h0 : 0 ≤ n) (h1 : n < len) : OpOk P o r H (Is (.ptr id (r0 + n.toNat) 0) H) :=
  .val fun E a hr hH => by
    have h := hr.at_ (x := x) (by simp [ho, Op.operands]) hx
    have h' := hr.at_ (x := i) (by simp [ho, Op.operands]) hi
    rw [hy] at h
    rw [hj] at h'
    have hv' := h'.int_inv
    obtain ⟨l, cap, i', hl, hv, hcap, _, hor, hi'⟩ := h.sl_inv hH hid (by simp)
    obtain rfl : r0 = i' := (hi'.resolve_right (by omega)).symm
    have hs : l.sz = sz := by cases hor with | rows cs e hs => exact hs
    refine ⟨.pointer (some ⟨l.b, l.base + r0 * l.sz + n.toNat * sz, none⟩), by simp [execOp, ho, hv, hv', run_indexAt_sl ht _ _ _ _ _ _ _ h0 h1], .ptr_mk hH hl ?_⟩
    subst hs
    simp [Nat.add_mul, Nat.add_assoc]

theorem ok_ia_view {t : TypeId} {x i : Operand} {y j : Opd} {sz : Nat} {k : IntKind} {n : Int} {es : List (List AV)} {row : List AV} (ho : o.op = .indexAddr t x i) (hx : opdOk x y = true) (hi : opdOk i j = true)
    (ht : sliceIs P t sz = true) (hy : r y = .view es) (hj : r j = .int k n) (h0 : 0 ≤ n) (hrow : es[n.toNat]? = some row) (hlen : row.length = sz) : OpOk P o r H (Is (.vp row 0) H) :=
  .val fun E a hr hH => by
    have h := hr.at_ (x := x) (by simp [ho, Op.operands]) hx
    have h' := hr.at_ (x := i) (by simp [ho, Op.operands]) hi
    rw [hy] at h
    rw [hj] at h'
    have hv' := h'.int_inv
    have hlt := (List.getElem?_eq_some_iff.1 hrow).1
    generalize hav : a.eval x = v at h
    cases h with
    | view0 => simp at hlt
    | view c hb hcap hsz hc h1 h =>
      rename_i b o' cap sz'
      have hsz' := hsz n.toNat row hrow
      have he : sz' = sz := by omega
      subst he
      refine ⟨.pointer (some ⟨b, (o' + n.toNat * sz') + 0, none⟩), by simp [execOp, ho, hav, hv', run_indexAt_sl ht _ _ _ _ _ _ _ h0 (by omega : n < es.length)], ?_⟩
      exact .vp (fun j => c n.toNat j) hb (fun j hj => hc n.toNat j hlt (by omega)) (fun j hj => h1 n.toNat j hlt (by omega)) (fun j a ha => h n.toNat row j a hrow ha)

def arrIs (P : Program) (t : TypeId) (len sz : Nat) : Bool := match P.underlying t with | some (.array n e) => n == len && sizeIs P e sz | _ => false
theorem run_indexAt_arr {t : TypeId} {len sz : Nat} (h : arrIs P t len sz = true) (w : World) (b o' : Nat) (k : IntKind) (n : Int) (h0 : 0 ≤ n) (h1 : n < len) :
    (Instr.indexAt t (.pointer (some ⟨b, o', none⟩)) (.int k n)).run P w = .ok (.pointer (some ⟨b, o' + n.toNat * sz, none⟩)) w := by
  unfold arrIs at h
  split at h
  · rename_i m e he
    simp only [Bool.and_eq_true, beq_iff_eq] at h
    obtain ⟨rfl, hs⟩ := h
    simp [Instr.indexAt, underlying, he, asIntOf, h0, h1, run_sizeOf hs, add_addr, Instr.sureAddr]
  · cases h
theorem ok_iaa_ptr {t : TypeId} {x i : Operand} {y j : Opd} {sz len id r0 off : Nat} {k : IntKind} {n : Int} {ob : AObj} (ho : o.op = .indexAddr t x i) (hx : opdOk x y = true) (hi : opdOk i j = true)
    (ht : arrIs P t len sz = true) (hy : r y = .ptr id r0 off) (hj : r j = .int k n) (hid : H[id]? = some ob) (hd : ob ≠ .dead) (h0 : 0 ≤ n) (h1 : n < len) : OpOk P o r H (Is (.ptr id r0 (off + n.toNat * sz)) H) :=
  .val fun E a hr hH => by
    have h := hr.at_ (x := x) (by simp [ho, Op.operands]) hx
    have h' := hr.at_ (x := i) (by simp [ho, Op.operands]) hi
    rw [hy] at h
    rw [hj] at h'
    have hv' := h'.int_inv
    obtain ⟨l, hl, hv, _⟩ := h.ptr_inv hH hid hd
    exact ⟨.pointer (some ⟨l.b, l.base + r0 * l.sz + off + n.toNat * sz, none⟩), by simp [execOp, ho, hv, hv', run_indexAt_arr ht _ _ _ _ _ h0 h1], .ptr_mk hH hl (by simp [Nat.add_assoc])⟩
theorem ok_iaa_vp {t : TypeId} {x i : Operand} {y j : Opd} {sz len off : Nat} {k : IntKind} {n : Int} {row : List AV} (ho : o.op = .indexAddr t x i) (hx : opdOk x y = true) (hi : opdOk i j = true)
    (ht : arrIs P t len sz = true) (hy : r y = .vp row off) (hj : r j = .int k n) (h0 : 0 ≤ n) (h1 : n < len) : OpOk P o r H (Is (.vp row (off + n.toNat * sz)) H) :=
  .val fun E a hr hH => by
    have h := hr.at_ (x := x) (by simp [ho, Op.operands]) hx
    have h' := hr.at_ (x := i) (by simp [ho, Op.operands]) hi
    rw [hy] at h
    rw [hj] at h'
    have hv' := h'.int_inv
    cases hv : a.eval x <;> rw [hv] at h <;> cases h
    rename_i b o' c hb hc h1' h
    exact ⟨.pointer (some ⟨b, o' + off + n.toNat * sz, none⟩), by simp [execOp, ho, hv, hv', run_indexAt_arr ht _ _ _ _ _ h0 h1], by rw [Nat.add_assoc]; exact .vp c hb hc h1' h⟩

/-! ### numbers -/
theorem abin_some {op : BinOp} {x y : AV} {k : AV → Prop} (h : abin op x y k) : ∃ a m n v, x = .int a m ∧ y = .int a n ∧ k v ∧
    ∀ (E : Env) (P : Program) (t : TypeId), (binOp op t (.int a m) (.int a n)).run P E.w = .ok (match v with | .int a q => .int a q | .bool b => .bool b | _ => undef) E.w ∧ VRel E v (match v with | .int a q => .int a q | .bool b => .bool b | _ => undef) := by
  unfold abin at h
  split at h
  · rename_i a m b n
    split at h
    · obtain ⟨rfl, h1, h2⟩ := h; exact ⟨a, m, n, _, rfl, rfl, h2, fun E P t => ⟨by have := h1; unfold fits at this; simp [binOp, Op.intArith, this], .int _ _⟩⟩
    · obtain ⟨rfl, h1, h2⟩ := h; exact ⟨a, m, n, _, rfl, rfl, h2, fun E P t => ⟨by have := h1; unfold fits at this; simp [binOp, Op.intArith, this], .int _ _⟩⟩
    · obtain ⟨rfl, h1, h2⟩ := h; exact ⟨a, m, n, _, rfl, rfl, h2, fun E P t => ⟨by have := h1; unfold fits at this; simp [binOp, Op.intArith, this], .int _ _⟩⟩
    · obtain ⟨rfl, h0, h1, h2⟩ := h; exact ⟨a, m, n, _, rfl, rfl, h2, fun E P t => ⟨by have := h1; unfold fits at this; simp [binOp, Op.intDiv, h0, this], .int _ _⟩⟩
    · obtain ⟨rfl, h0, h2⟩ := h; exact ⟨a, m, n, _, rfl, rfl, h2, fun E P t => ⟨by simp [binOp, Op.intDiv, h0], .int _ _⟩⟩
    · obtain ⟨rfl, h2⟩ := h; exact ⟨a, m, n, _, rfl, rfl, h2, fun E P t => ⟨by simp [binOp, Op.intCmp]; rfl, .bool _⟩⟩
    · obtain ⟨rfl, h2⟩ := h; exact ⟨a, m, n, _, rfl, rfl, h2, fun E P t => ⟨by simp [binOp, Op.intCmp]; rfl, .bool _⟩⟩
    · obtain ⟨rfl, h2⟩ := h; exact ⟨a, m, n, _, rfl, rfl, h2, fun E P t => ⟨by simp [binOp, Op.intCmp], .bool _⟩⟩
    · obtain ⟨rfl, h2⟩ := h; exact ⟨a, m, n, _, rfl, rfl, h2, fun E P t => ⟨by simp [binOp, Op.intCmp], .bool _⟩⟩
    · obtain ⟨rfl, h2⟩ := h; exact ⟨a, m, n, _, rfl, rfl, h2, fun E P t => ⟨by simp [binOp, Op.intCmp], .bool _⟩⟩
    · obtain ⟨rfl, h2⟩ := h; exact ⟨a, m, n, _, rfl, rfl, h2, fun E P t => ⟨by simp [binOp, Op.intCmp], .bool _⟩⟩
    · exact h.elim
  · exact h.elim

theorem ok_bin {op : BinOp} {t u : TypeId} {x y : Operand} {x' y' : Opd} {k : AV → Prop} (ho : o.op = .binOp op t x y u) (hx : opdOk x x' = true) (hy : opdOk y y' = true) (h : abin op (r x') (r y') k) :
    ∃ z, OpOk P o r H (Is z H) ∧ k z := by
  obtain ⟨a, m, n, v, h1, h2, h3, h4⟩ := abin_some h
  refine ⟨v, .val fun E a' hr hH => ?_, h3⟩
  have e1 := hr.at_ (x := x) (by simp [ho, Op.operands]) hx
  have e2 := hr.at_ (x := y) (by simp [ho, Op.operands]) hy
  rw [h1] at e1
  rw [h2] at e2
  have e1 := e1.int_inv
  have e2 := e2.int_inv
  refine ⟨_, ?_, (h4 E P t).2⟩
  simp [execOp, ho, e1, e2, eqGuard_at_int, (h4 E P t).1]

theorem abinw_some {op : BinOp} {x y : AV} {k : AV → Prop} (h : abinw op x y k) : ∃ a b m n q, x = .int a m ∧ y = .int b n ∧ k (.int a q) ∧
    ∀ (E : Env) (P : Program) (t : TypeId), (binOp op t (.int a m) (.int b n)).run P E.w = .ok (.int a q) E.w := by
  unfold abinw at h
  split at h
  · rename_i a m b n
    split at h
    · obtain ⟨rfl, h2⟩ := h; exact ⟨a, a, m, n, _, rfl, rfl, h2, fun E P t => by simp [binOp, Op.intArith]⟩
    · obtain ⟨rfl, h2⟩ := h; exact ⟨a, a, m, n, _, rfl, rfl, h2, fun E P t => by simp [binOp, Op.intArith]⟩
    · obtain ⟨rfl, h2⟩ := h; exact ⟨a, a, m, n, _, rfl, rfl, h2, fun E P t => by simp [binOp, Op.intArith]⟩
    · obtain ⟨rfl, h2⟩ := h; exact ⟨a, a, m, n, _, rfl, rfl, h2, fun E P t => by simp [binOp, Op.intBits]⟩
    · obtain ⟨rfl, h2⟩ := h; exact ⟨a, a, m, n, _, rfl, rfl, h2, fun E P t => by simp [binOp, Op.intBits]⟩
    · obtain ⟨rfl, h2⟩ := h; exact ⟨a, a, m, n, _, rfl, rfl, h2, fun E P t => by simp [binOp, Op.intBits]⟩
    · obtain ⟨rfl, h2⟩ := h; exact ⟨a, a, m, n, _, rfl, rfl, h2, fun E P t => by simp [binOp, Op.intBits]⟩
    · obtain ⟨h0, h2⟩ := h; exact ⟨a, b, m, n, _, rfl, rfl, h2, fun E P t => by simp [binOp, Op.shift, Int.not_lt.2 h0]⟩
    · obtain ⟨h0, h2⟩ := h; exact ⟨a, b, m, n, _, rfl, rfl, h2, fun E P t => by simp [binOp, Op.shift, Int.not_lt.2 h0]⟩
    · exact h.elim
  · exact h.elim
theorem ok_binw {op : BinOp} {t u : TypeId} {x y : Operand} {x' y' : Opd} {k : AV → Prop} (ho : o.op = .binOp op t x y u) (hx : opdOk x x' = true) (hy : opdOk y y' = true) (h : abinw op (r x') (r y') k) :
    ∃ z, OpOk P o r H (Is z H) ∧ k z := by
  obtain ⟨a, b, m, n, q, h1, h2, h3, h4⟩ := abinw_some h
  refine ⟨.int a q, .val fun E a' hr hH => ?_, h3⟩
  have e1 := hr.at_ (x := x) (by simp [ho, Op.operands]) hx
  have e2 := hr.at_ (x := y) (by simp [ho, Op.operands]) hy
  rw [h1] at e1
  rw [h2] at e2
  have e1 := e1.int_inv
  have e2 := e2.int_inv
  exact ⟨_, by simp [execOp, ho, e1, e2, eqGuard_at_int, h4 E P t], .int _ _⟩
end
end Go.Proofs.Ytnjpfoblmomnlaa.Sx
