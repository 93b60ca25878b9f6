/- That further operations do what the small language says: indices, numbers, comparisons, parts of values. No conditions: a kit of our own. -/
import Derived.Test.YteidimemlonjbaaSx3
namespace Go.Proofs.Yteidimemlonjbaa.Sx
open Go Go.RowKit
set_option linter.unusedVariables false
set_option linter.unusedSimpArgs false
section
variable {P : Program} {o : Oper} {r : Opd → AV} {H : List AObj}

theorem run_part {t : TypeId} {g : Option Nat} {cs : List AV} {vs : List Value} {off : Nat} {z : AV} {E : Env} (hg : aggIs P t g = true) (hl : vs.length = cs.length) (h1 : ∀ v ∈ vs, v.oneCell' = true)
    (h : ∀ (i : Nat) (a : AV) (v : Value), cs[i]? = some a → vs[i]? = some v → VRel E a v) (hz : rdv g cs off = some z) : ∃ v, (part t vs.toArray off).run P E.w = .ok v E.w ∧ VRel E z v := by
  obtain ⟨ha, hb⟩ := run_isAgg hg E.w
  cases g with
  | none =>
    simp only [rdv] at hz
    have hlt := (List.getElem?_eq_some_iff.1 hz).1
    have hv : vs[off]? = some (vs[off]'(by omega)) := List.getElem?_eq_getElem (by omega)
    exact ⟨vs[off]'(by omega), by simp [part, ha, hv], h off z _ hz hv⟩
  | some n =>
    simp only [rdv] at hz
    split at hz
    · rename_i hle
      cases hz
      refine ⟨.agg ((vs.drop off).take n).toArray, by simp [part, ha, run_sizeOf (hb n rfl), List.extract_eq_take_drop], ?_⟩
      refine .agg (by simp; omega) (fun v hv => h1 v (List.mem_of_mem_drop (List.mem_of_mem_take hv))) (fun i a v ha hv => ?_)
      rw [List.getElem?_take] at ha hv
      split at ha
      · rename_i hi
        simp only [hi, if_true] at hv
        rw [List.getElem?_drop] at ha hv
        exact h _ _ _ ha hv
      · cases ha
    · cases hz

theorem VRel.agg_inv {E : Env} {cs : List AV} {v : Value} (h : VRel E (.agg cs) v) : ∃ vs : List Value, v = .agg vs.toArray ∧ vs.length = cs.length ∧ (∀ v ∈ vs, v.oneCell' = true) ∧
    ∀ (i : Nat) (a : AV) (v : Value), cs[i]? = some a → vs[i]? = some v → VRel E a v := by
  cases h with | agg hl h1 h => exact ⟨_, rfl, hl, h1, h⟩
theorem VRel.tup_inv {E : Env} {cs : List AV} {v : Value} (h : VRel E (.tup cs) v) : ∃ vs : List Value, v = .tuple vs.toArray ∧ VRels E cs vs := by
  cases h with | tup hl h => exact ⟨_, rfl, hl, h⟩
theorem VRel.fn_inv {E : Env} {f : FuncId} {cs fs : List AV} {v : Value} (h : VRel E (.fn f cs fs) v) : ∃ vs ws : List Value, v = .func (.func f) vs.toArray ws.toArray ∧ VRels E cs vs ∧ VRels E fs ws := by
  cases h with | fn hl hm h h' => exact ⟨_, _, rfl, ⟨hl, h⟩, ⟨hm, h'⟩⟩
def fldIs (P : Program) (s : TypeId) (f off : Nat) (g : Option Nat) : Bool := match P.underlying s with
  | some (.struct fs) => (match fs[f]? with | some fd => fd.offset == off && aggIs P fd.type g | none => false)
  | _ => false
theorem ok_fld {s : TypeId} {x : Operand} {y : Opd} {f off : Nat} {g : Option Nat} {cs : List AV} {z : AV} (ho : o.op = .field s x f) (hx : opdOk x y = true) (hf : fldIs P s f off g = true) (hy : r y = .agg cs)
    (hz : rdv g cs off = some z) : OpOk P o r H (Is z H) :=
  .val fun E a hr hH => by
    have h := hr.at_ (x := x) (by simp [ho, Op.operands]) hx
    rw [hy] at h
    obtain ⟨vs, hv, hl, h1, h⟩ := h.agg_inv
    unfold fldIs at hf
    split at hf
    · rename_i fs hfs
      split at hf
      · rename_i fd hfd
        simp only [Bool.and_eq_true, beq_iff_eq] at hf
        obtain ⟨v, h2, h3⟩ := run_part hf.2 hl h1 h hz
        exact ⟨v, by simp [execOp, ho, hv, Instr.field, underlying, hfs, hfd, asAgg, hf.1, h2], h3⟩
      · cases hf
    · cases hf

theorem sliceIs_run {t : TypeId} {sz : Nat} (h : sliceIs P t sz = true) : ∃ e, P.underlying t = some (.slice e) ∧ sizeIs P e sz = true := by
  unfold sliceIs at h
  split at h
  · rename_i e he; exact ⟨e, he, h⟩
  · cases h

theorem run_indexAt_sl {t : TypeId} {sz : Nat} (h : sliceIs P t sz = true) (w : World) (b o' len cap : Nat) (k : IntKind) (n : Int) (h0 : 0 ≤ n) (h1 : n < len) :
    (Instr.indexAt t (.slice (some ⟨b, o', none⟩) len cap) (.int k n)).run P w = .ok (.pointer (some ⟨b, o' + n.toNat * sz, none⟩)) w := by
  obtain ⟨e, he, hs⟩ := sliceIs_run h
  simp [Instr.indexAt, underlying, he, asIntOf, h0, h1, run_sizeOf hs, add_addr]

theorem VRel.sl_inv {E : Env} {id i len : Nat} {v : Value} {ob : AObj} (hH : HRel E H) (h : VRel E (.sl id i len) v) (ho : H[id]? = some ob) (hd : ob ≠ .dead) :
    ∃ l cap, E.s id = some l ∧ v = .slice (some ⟨l.b, l.base + i * l.sz, none⟩) len cap ∧ len ≤ cap ∧ E.room l.b (l.base + (i + cap) * l.sz) ∧ ORel E ob l := by
  obtain ⟨l, hl, hr⟩ := hH.get ho hd
  cases h with
  | sl _ _ h =>
    obtain ⟨cap, h1, h2, h3⟩ := h l hl
    exact ⟨l, cap, hl, h1, h2, h3, hr⟩

theorem VRel.int_inv {E : Env} {k : IntKind} {n : Int} {v : Value} (h : VRel E (.int k n) v) : v = .int k n := by cases h; rfl
theorem VRel.bool_inv {E : Env} {b : Bool} {v : Value} (h : VRel E (.bool b) v) : v = .bool b := by cases h; rfl

theorem ok_ia_sl {t : TypeId} {x i : Operand} {y j : Opd} {sz id r0 len : Nat} {k : IntKind} {n : Int} {rs : List (List AV)} (ho : o.op = .indexAddr t x i) (hx : opdOk x y = true) (hi : opdOk i j = true)
    (ht : sliceIs P t sz = true) (hy : r y = .sl id r0 len) (hj : r j = .int k n) (hid : H[id]? = some (.rows sz rs)) (h0 : 0 ≤ n) (h1 : n < len) : OpOk P o r H (Is (.ptr id (r0 + n.toNat) 0) H) :=
  .val fun E a hr hH => by
    have h := hr.at_ (x := x) (by simp [ho, Op.operands]) hx
    have h' := hr.at_ (x := i) (by simp [ho, Op.operands]) hi
    rw [hy] at h
    rw [hj] at h'
    have hv' := h'.int_inv
    obtain ⟨l, cap, hl, hv, _, _, hor⟩ := h.sl_inv hH hid (by simp)
    have hs : l.sz = sz := by cases hor with | rows cs e hs => exact hs
    refine ⟨.pointer (some ⟨l.b, l.base + r0 * l.sz + n.toNat * sz, none⟩), by simp [execOp, ho, hv, hv', run_indexAt_sl ht _ _ _ _ _ _ _ h0 h1], .ptr_mk hH hl ?_⟩
    subst hs
    simp [Nat.add_mul, Nat.add_assoc]

theorem ok_ia_view {t : TypeId} {x i : Operand} {y j : Opd} {sz : Nat} {k : IntKind} {n : Int} {es : List (List AV)} {row : List AV} (ho : o.op = .indexAddr t x i) (hx : opdOk x y = true) (hi : opdOk i j = true)
    (ht : sliceIs P t sz = true) (hy : r y = .view es) (hj : r j = .int k n) (h0 : 0 ≤ n) (hrow : es[n.toNat]? = some row) (hlen : row.length = sz) : OpOk P o r H (Is (.vp row 0) H) :=
  .val fun E a hr hH => by
    have h := hr.at_ (x := x) (by simp [ho, Op.operands]) hx
    have h' := hr.at_ (x := i) (by simp [ho, Op.operands]) hi
    rw [hy] at h
    rw [hj] at h'
    have hv' := h'.int_inv
    have hlt := (List.getElem?_eq_some_iff.1 hrow).1
    generalize hav : a.eval x = v at h
    cases h with
    | view0 => simp at hlt
    | view c hb hcap hsz hc h1 h =>
      rename_i b o' cap sz'
      have hsz' := hsz n.toNat row hrow
      have he : sz' = sz := by omega
      subst he
      refine ⟨.pointer (some ⟨b, (o' + n.toNat * sz') + 0, none⟩), by simp [execOp, ho, hav, hv', run_indexAt_sl ht _ _ _ _ _ _ _ h0 (by omega : n < es.length)], ?_⟩
      exact .vp (fun j => c n.toNat j) hb (fun j hj => hc n.toNat j hlt (by omega)) (fun j hj => h1 n.toNat j hlt (by omega)) (fun j a ha => h n.toNat row j a hrow ha)

def arrIs (P : Program) (t : TypeId) (len sz : Nat) : Bool := match P.underlying t with | some (.array n e) => n == len && sizeIs P e sz | _ => false
theorem run_indexAt_arr {t : TypeId} {len sz : Nat} (h : arrIs P t len sz = true) (w : World) (b o' : Nat) (k : IntKind) (n : Int) (h0 : 0 ≤ n) (h1 : n < len) :
    (Instr.indexAt t (.pointer (some ⟨b, o', none⟩)) (.int k n)).run P w = .ok (.pointer (some ⟨b, o' + n.toNat * sz, none⟩)) w := by
  unfold arrIs at h
  split at h
  · rename_i m e he
    simp only [Bool.and_eq_true, beq_iff_eq] at h
    obtain ⟨rfl, hs⟩ := h
    simp [Instr.indexAt, underlying, he, asIntOf, h0, h1, run_sizeOf hs, add_addr, Instr.sureAddr]
  · cases h
theorem ok_iaa_ptr {t : TypeId} {x i : Operand} {y j : Opd} {sz len id r0 off : Nat} {k : IntKind} {n : Int} {ob : AObj} (ho : o.op = .indexAddr t x i) (hx : opdOk x y = true) (hi : opdOk i j = true)
    (ht : arrIs P t len sz = true) (hy : r y = .ptr id r0 off) (hj : r j = .int k n) (hid : H[id]? = some ob) (hd : ob ≠ .dead) (h0 : 0 ≤ n) (h1 : n < len) : OpOk P o r H (Is (.ptr id r0 (off + n.toNat * sz)) H) :=
  .val fun E a hr hH => by
    have h := hr.at_ (x := x) (by simp [ho, Op.operands]) hx
    have h' := hr.at_ (x := i) (by simp [ho, Op.operands]) hi
    rw [hy] at h
    rw [hj] at h'
    have hv' := h'.int_inv
    obtain ⟨l, hl, hv, _⟩ := h.ptr_inv hH hid hd
    exact ⟨.pointer (some ⟨l.b, l.base + r0 * l.sz + off + n.toNat * sz, none⟩), by simp [execOp, ho, hv, hv', run_indexAt_arr ht _ _ _ _ _ h0 h1], .ptr_mk hH hl (by simp [Nat.add_assoc])⟩
theorem ok_iaa_vp {t : TypeId} {x i : Operand} {y j : Opd} {sz len off : Nat} {k : IntKind} {n : Int} {row : List AV} (ho : o.op = .indexAddr t x i) (hx : opdOk x y = true) (hi : opdOk i j = true)
    (ht : arrIs P t len sz = true) (hy : r y = .vp row off) (hj : r j = .int k n) (h0 : 0 ≤ n) (h1 : n < len) : OpOk P o r H (Is (.vp row (off + n.toNat * sz)) H) :=
  .val fun E a hr hH => by
    have h := hr.at_ (x := x) (by simp [ho, Op.operands]) hx
    have h' := hr.at_ (x := i) (by simp [ho, Op.operands]) hi
    rw [hy] at h
    rw [hj] at h'
    have hv' := h'.int_inv
    cases hv : a.eval x <;> rw [hv] at h <;> cases h
    rename_i b o' c hb hc h1' h
    exact ⟨.pointer (some ⟨b, o' + off + n.toNat * sz, none⟩), by simp [execOp, ho, hv, hv', run_indexAt_arr ht _ _ _ _ _ h0 h1], by rw [Nat.add_assoc]; exact .vp c hb hc h1' h⟩

/-! ### numbers -/
theorem abin_some {op : BinOp} {x y : AV} {k : AV → Prop} (h : abin op x y k) : ∃ a m n v, x = .int a m ∧ y = .int a n ∧ k v ∧
    ∀ (E : Env) (P : Program) (t : TypeId), (binOp op t (.int a m) (.int a n)).run P E.w = .ok (match v with | .int a q => .int a q | .bool b => .bool b | _ => undef) E.w ∧ VRel E v (match v with | .int a q => .int a q | .bool b => .bool b | _ => undef) := by
  unfold abin at h
  split at h
  · rename_i a m b n
    split at h
    · obtain ⟨rfl, h1, h2⟩ := h; exact ⟨a, m, n, _, rfl, rfl, h2, fun E P t => ⟨by have := h1; unfold fits at this; simp [binOp, Op.intArith, this], .int _ _⟩⟩
    · obtain ⟨rfl, h1, h2⟩ := h; exact ⟨a, m, n, _, rfl, rfl, h2, fun E P t => ⟨by have := h1; unfold fits at this; simp [binOp, Op.intArith, this], .int _ _⟩⟩
    · obtain ⟨rfl, h1, h2⟩ := h; exact ⟨a, m, n, _, rfl, rfl, h2, fun E P t => ⟨by have := h1; unfold fits at this; simp [binOp, Op.intArith, this], .int _ _⟩⟩
    · obtain ⟨rfl, h0, h1, h2⟩ := h; exact ⟨a, m, n, _, rfl, rfl, h2, fun E P t => ⟨by have := h1; unfold fits at this; simp [binOp, Op.intDiv, h0, this], .int _ _⟩⟩
    · obtain ⟨rfl, h0, h2⟩ := h; exact ⟨a, m, n, _, rfl, rfl, h2, fun E P t => ⟨by simp [binOp, Op.intDiv, h0], .int _ _⟩⟩
    · obtain ⟨rfl, h2⟩ := h; exact ⟨a, m, n, _, rfl, rfl, h2, fun E P t => ⟨by simp [binOp, Op.intCmp]; rfl, .bool _⟩⟩
    · obtain ⟨rfl, h2⟩ := h; exact ⟨a, m, n, _, rfl, rfl, h2, fun E P t => ⟨by simp [binOp, Op.intCmp]; rfl, .bool _⟩⟩
    · obtain ⟨rfl, h2⟩ := h; exact ⟨a, m, n, _, rfl, rfl, h2, fun E P t => ⟨by simp [binOp, Op.intCmp], .bool _⟩⟩
    · obtain ⟨rfl, h2⟩ := h; exact ⟨a, m, n, _, rfl, rfl, h2, fun E P t => ⟨by simp [binOp, Op.intCmp], .bool _⟩⟩
    · obtain ⟨rfl, h2⟩ := h; exact ⟨a, m, n, _, rfl, rfl, h2, fun E P t => ⟨by simp [binOp, Op.intCmp], .bool _⟩⟩
    · obtain ⟨rfl, h2⟩ := h; exact ⟨a, m, n, _, rfl, rfl, h2, fun E P t => ⟨by simp [binOp, Op.intCmp], .bool _⟩⟩
    · exact h.elim
  · exact h.elim

theorem ok_bin {op : BinOp} {t u : TypeId} {x y : Operand} {x' y' : Opd} {k : AV → Prop} (ho : o.op = .binOp op t x y u) (hx : opdOk x x' = true) (hy : opdOk y y' = true) (h : abin op (r x') (r y') k) :
    ∃ z, OpOk P o r H (Is z H) ∧ k z := by
  obtain ⟨a, m, n, v, h1, h2, h3, h4⟩ := abin_some h
  refine ⟨v, .val fun E a' hr hH => ?_, h3⟩
  have e1 := hr.at_ (x := x) (by simp [ho, Op.operands]) hx
  have e2 := hr.at_ (x := y) (by simp [ho, Op.operands]) hy
  rw [h1] at e1
  rw [h2] at e2
  have e1 := e1.int_inv
  have e2 := e2.int_inv
  refine ⟨_, ?_, (h4 E P t).2⟩
  simp [execOp, ho, e1, e2, eqGuard_at_int, (h4 E P t).1]

theorem abinw_some {op : BinOp} {x y : AV} {k : AV → Prop} (h : abinw op x y k) : ∃ a b m n q, x = .int a m ∧ y = .int b n ∧ k (.int a q) ∧
    ∀ (E : Env) (P : Program) (t : TypeId), (binOp op t (.int a m) (.int b n)).run P E.w = .ok (.int a q) E.w := by
  unfold abinw at h
  split at h
  · rename_i a m b n
    split at h
    · obtain ⟨rfl, h2⟩ := h; exact ⟨a, a, m, n, _, rfl, rfl, h2, fun E P t => by simp [binOp, Op.intArith]⟩
    · obtain ⟨rfl, h2⟩ := h; exact ⟨a, a, m, n, _, rfl, rfl, h2, fun E P t => by simp [binOp, Op.intArith]⟩
    · obtain ⟨rfl, h2⟩ := h; exact ⟨a, a, m, n, _, rfl, rfl, h2, fun E P t => by simp [binOp, Op.intArith]⟩
    · obtain ⟨rfl, h2⟩ := h; exact ⟨a, a, m, n, _, rfl, rfl, h2, fun E P t => by simp [binOp, Op.intBits]⟩
    · obtain ⟨rfl, h2⟩ := h; exact ⟨a, a, m, n, _, rfl, rfl, h2, fun E P t => by simp [binOp, Op.intBits]⟩
    · obtain ⟨rfl, h2⟩ := h; exact ⟨a, a, m, n, _, rfl, rfl, h2, fun E P t => by simp [binOp, Op.intBits]⟩
    · obtain ⟨rfl, h2⟩ := h; exact ⟨a, a, m, n, _, rfl, rfl, h2, fun E P t => by simp [binOp, Op.intBits]⟩
    · obtain ⟨h0, h2⟩ := h; exact ⟨a, b, m, n, _, rfl, rfl, h2, fun E P t => by simp [binOp, Op.shift, Int.not_lt.2 h0]⟩
    · obtain ⟨h0, h2⟩ := h; exact ⟨a, b, m, n, _, rfl, rfl, h2, fun E P t => by simp [binOp, Op.shift, Int.not_lt.2 h0]⟩
    · exact h.elim
  · exact h.elim
theorem ok_binw {op : BinOp} {t u : TypeId} {x y : Operand} {x' y' : Opd} {k : AV → Prop} (ho : o.op = .binOp op t x y u) (hx : opdOk x x' = true) (hy : opdOk y y' = true) (h : abinw op (r x') (r y') k) :
    ∃ z, OpOk P o r H (Is z H) ∧ k z := by
  obtain ⟨a, b, m, n, q, h1, h2, h3, h4⟩ := abinw_some h
  refine ⟨.int a q, .val fun E a' hr hH => ?_, h3⟩
  have e1 := hr.at_ (x := x) (by simp [ho, Op.operands]) hx
  have e2 := hr.at_ (x := y) (by simp [ho, Op.operands]) hy
  rw [h1] at e1
  rw [h2] at e2
  have e1 := e1.int_inv
  have e2 := e2.int_inv
  exact ⟨_, by simp [execOp, ho, e1, e2, eqGuard_at_int, h4 E P t], .int _ _⟩
end
end Go.Proofs.Yteidimemlonjbaa.Sx
