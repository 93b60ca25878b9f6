/- That make, cuts, maps and calls do what the small language says. No conditions: a kit of our own. -/
import Derived.Test.YtnjpfoblmomnlaaSx10
import Derived.Laws.MakeOwn
import Derived.ChangeKeysEq
import Derived.Laws.StructEq
namespace Go.Proofs.Ytnjpfoblmomnlaa.Sx
open Go Go.RowKit
set_option linter.unusedVariables false
set_option linter.unusedSimpArgs false
section
variable {P : Program} {o : Oper} {r : Opd → AV} {H : List AObj}

def makeIs (P : Program) (t : TypeId) (sz : Nat) (z : List AV) : Bool := match P.underlying t with
  | some (.slice e) => sizeIs P e sz && zeroIs P e z && (match P.info? e with | some i => decide (i.bytes ≤ 65536) | none => false) && z.length == sz && decide (0 < sz)
  | _ => false

theorem ok_mkslice {t : TypeId} {l c : Operand} {l' c' : Opd} {sz : Nat} {z : List AV} {k k' : IntKind} {m n : Int} (ho : o.op = .makeSlice t l c) (hl : opdOk l l' = true) (hc : opdOk c c' = true) (ht : makeIs P t sz z = true)
    (h1 : r l' = .int k m) (h2 : r c' = .int k' n) (h0 : 0 ≤ m) (hmn : m ≤ n) (hn : n ≤ mostRows) : OpOk P o r H (Is (.sl H.length 0 m.toNat) (H ++ [.rows sz (List.replicate m.toNat z)])) :=
  .go fun E a hr hH => by
    have g1 := hr.at_ (x := l) (by simp [ho, Op.operands]) hl
    have g2 := hr.at_ (x := c) (by simp [ho, Op.operands]) hc
    rw [h1] at g1
    rw [h2] at g2
    have g1 := g1.int_inv
    have g2 := g2.int_inv
    unfold makeIs at ht
    split at ht
    · rename_i e he
      simp only [Bool.and_eq_true, decide_eq_true_eq, beq_iff_eq] at ht
      obtain ⟨⟨⟨⟨hs, hz⟩, hb⟩, hzl⟩, hsz⟩ := ht
      obtain ⟨i, zv, hi, hzv, hcr⟩ := zeroIs_run hz
      obtain ⟨i', hi', his⟩ := sizeIs_run hs
      rw [hi] at hi'
      cases hi'
      simp only [hi, decide_eq_true_eq] at hb
      unfold mostRows at hn
      have hby : (i.bytes : Int) * n ≤ 281474976710656 := by
        have : (i.bytes : Int) * n ≤ 65536 * 1073741824 := Int.mul_le_mul (by omega) (by omega) (by omega) (by omega)
        omega
      have hrun := run_make (P := P) E.w t e i zv he hi hzv k k' m n h0 hmn hby (by omega)
      rw [his] at hrun
      have hzs := (hcr E).len
      have tt : Turned E.w (E.w.alloc (.cells (madeCells zv.cells (n.toNat * sz)) e)) (fun _ => False) := .push _ rfl rfl rfl rfl
      have hnew : (E.w.alloc (.cells (madeCells zv.cells (n.toNat * sz)) e)).heap[E.w.heap.size]? = some (.cells (madeCells zv.cells (n.toNat * sz)) e (0, 0)) := by
        show (E.w.heap.push _)[E.w.heap.size]? = _
        simp
      have hle : m.toNat * sz ≤ n.toNat * sz := Nat.mul_le_mul_right _ (by omega)
      obtain ⟨k1, k2⟩ := hH.bear tt (l := ⟨E.w.heap.size, 0, sz⟩) (Nat.le_refl _) (by simp) (o := .rows sz (List.replicate m.toNat z)) (fun x =>
        rows_cells (e := e) hnew (by simp [size_madeCells]; exact hle) (fun y hy => by rw [List.eq_of_mem_replicate hy]; exact hzl) (fun q row j hq hj => by
          have hq' : q < m.toNat ∧ row = z := by
            rw [List.getElem?_replicate] at hq
            split at hq
            · rename_i h; cases hq; exact ⟨h, rfl⟩
            · cases hq
          obtain ⟨hq1, rfl⟩ := hq'
          have hqm := (mul_step (sz := sz) hq1 (Nat.le_refl m.toNat)).1
          obtain ⟨v, v1, v2, v3⟩ := (hcr E).get (j := j) (by omega)
          refine ⟨v, ?_, v2, fun a ha => (v3 a ha).ext (Nat.le_refl _) x⟩
          have hlt : q * sz + j < n.toNat * sz := by omega
          have hmod : (q * sz + j) % zv.cells.size = j := by rw [hzs, hzl, Nat.mul_comm, Nat.mul_add_mod, Nat.mod_eq_of_lt hj]
          have hjl : j < zv.cells.size := by omega
          simp [madeCells, hlt, hmod]
          rw [getElem!_pos zv.cells _ hjl]
          simpa [Array.getElem?_eq_getElem hjl] using v1))
      refine ⟨.slice (some ⟨E.w.heap.size, 0, none⟩) m.toNat n.toNat, _, .inl ?_, ?_, k1, k2⟩
      · simp [execOp, ho, g1, g2, hrun]
      · refine .sl (by simp [hH.n]) rfl (fun l hl => ?_)
        simp only [Sx.bear, hH.n, if_true] at hl
        cases hl
        exact ⟨n.toNat, 0, by simp, by omega, ⟨_, e, (0, 0), hnew, by simp [size_madeCells]⟩, .inl rfl⟩
    · cases ht

/-! ### cuts -/
def cutIs (P : Program) (t : TypeId) : Bool := match P.underlying t with | some (.slice e) => (P.info? e).isSome | _ => false

theorem run_sliceAt {t : TypeId} (ht : cutIs P t = true) (w : World) {a : Option Addr} {len cap : Nat} (lo hi : Option Value) (m n : Nat) (hlo : lo = none ∧ m = 0 ∨ ∃ k, lo = some (.int k m)) (hhi : hi = none ∧ n = len ∨ ∃ k, hi = some (.int k n)) (hm : m ≤ n) (hn : n ≤ cap) :
    ∃ sz, (∀ e, P.underlying t = some (.slice e) → sizeIs P e sz = true) ∧ (Instr.sliceAt t (.slice a len cap) lo hi none).run P w = .ok (.slice (if cap = m then a else a.map (·.add (m * sz))) (n - m) (cap - m)) w := by
  unfold cutIs at ht
  split at ht
  · rename_i e he
    obtain ⟨i, hi'⟩ := Option.isSome_iff_exists.1 ht
    refine ⟨i.size, fun e' he' => ?_, ?_⟩
    · rw [he] at he'; cases he'; simp [sizeIs, hi']
    · have h1 : (0 : Int) ≤ m := by omega
      have h2 : (m : Int) ≤ n := by omega
      have h3 : (n : Int) ≤ cap := by omega
      have h4 : (0 : Int) ≤ n := by omega
      have hb : (Instr.sliceBounds true len cap lo hi none).run P w = .ok (m, n, cap) w := by
        rcases hlo with ⟨rfl, rfl⟩ | ⟨k, rfl⟩ <;> rcases hhi with ⟨rfl, rfl⟩ | ⟨k', rfl⟩ <;> simp [Instr.sliceBounds, Instr.sliceBound, asIntOf, h1, h2, h3, h4, hm, hn, Nat.not_lt.2 hm, Nat.not_lt.2 hn]
      simp [Instr.sliceAt, Instr.slice, run_underlying he, hb, sizeOf, typeInfo, hi']
  · cases ht

def optOk : Option Operand → Option Opd → Bool
  | none, none => true
  | some x, some y => opdOk x y
  | _, _ => false
/-- A bound of a cut: the number, or that there is none. -/
def bndIs (r : Opd → AV) (y : Option Opd) (d n : Nat) : Prop := y = none ∧ n = d ∨ ∃ z k, y = some z ∧ r z = .int k n
theorem bnd_run {E : Env} {a : Act} (hr : OpsRel E r a o) {x : Option Operand} {y : Option Opd} {d n : Nat} (h : optOk x y = true) (hm : ∀ z, x = some z → z ∈ o.op.operands) (hb : bndIs r y d n) : x.map a.eval = none ∧ n = d ∨ ∃ k, x.map a.eval = some (.int k n) := by
  cases x <;> cases y <;> simp [optOk] at h
  · rcases hb with ⟨_, rfl⟩ | ⟨z, k, hz, _⟩
    · exact .inl ⟨rfl, rfl⟩
    · cases hz
  · rcases hb with ⟨hz, _⟩ | ⟨z, k, hz, h'⟩
    · cases hz
    · cases hz
      have g := hr.at_ (hm _ rfl) h
      rw [h'] at g
      exact .inr ⟨k, by simp [g.int_inv]⟩

theorem ok_slc_view {t : TypeId} {x : Operand} {y : Opd} {lo hi : Option Operand} {lo' hi' : Option Opd} {es : List (List AV)} {m n : Nat} (ho : o.op = .slice t x lo hi none) (hx : opdOk x y = true) (hlo : optOk lo lo' = true) (hhi : optOk hi hi' = true)
    (ht : cutIs P t = true) (hsz : ∀ e z, P.underlying t = some (.slice e) → sizeIs P e z = true → ∀ y ∈ es, y.length = z) (hy : r y = .view es) (h1 : bndIs r lo' 0 m) (h2 : bndIs r hi' es.length n) (hm : m ≤ n) (hn : n ≤ es.length) : OpOk P o r H (Is (.view ((es.drop m).take (n - m))) H) :=
  .val fun E a hr hH => by
    have h := hr.at_ (x := x) (by simp [ho, Op.operands]) hx
    rw [hy] at h
    have g1 := bnd_run hr hlo (fun z hz => by simp [ho, Op.operands, hz]) h1
    have g2 := bnd_run hr hhi (fun z hz => by simp [ho, Op.operands, hz]) h2
    generalize hv : a.eval x = v at h
    cases h with
    | view0 q cap =>
      have e0 : n = 0 ∧ m = 0 := by simp at hn; omega
      obtain ⟨rfl, rfl⟩ := e0
      obtain ⟨sz, _, hrun⟩ := run_sliceAt ht E.w (a := q) (len := 0) (cap := cap) _ _ 0 0 g1 g2 (Nat.le_refl _) (Nat.zero_le _)
      refine ⟨_, by simp [execOp, ho, hv, hrun]; rfl, ?_⟩
      simp
      exact .view0 _ _
    | view c hb hcap hsz' hc h1' h =>
      rename_i b o' cap sz'
      obtain ⟨sz, hsz2, hrun⟩ := run_sliceAt ht E.w (a := some ⟨b, o', none⟩) (len := es.length) (cap := cap) _ _ m n g1 g2 hm (by omega)
      have hlen : ((es.drop m).take (n - m)).length = n - m := by simp; omega
      by_cases h0 : n - m = 0
      · refine ⟨_, by simp [execOp, ho, hv, hrun]; rfl, ?_⟩
        rw [h0]
        simp
        exact .view0 _ _
      · have hcm : ¬ cap = m := by omega
        have e1 : sz' = sz := by
          obtain ⟨e, he⟩ : ∃ e, P.underlying t = some (.slice e) := by
            unfold cutIs at ht
            split at ht
            · rename_i e he; exact ⟨e, he⟩
            · cases ht
          have := hsz e sz he (hsz2 e he) (es[0]'(by omega)) (List.getElem_mem _)
          have := hsz' 0 _ (List.getElem?_eq_getElem (by omega))
          omega
        subst e1
        refine ⟨.slice (some ⟨b, o' + m * sz', none⟩) (n - m) (cap - m), by simp [execOp, ho, hv, hrun, hcm, add_addr], ?_⟩
        have key : VRel E (.view ((es.drop m).take (n - m))) (.slice (some ⟨b, o' + m * sz', none⟩) ((es.drop m).take (n - m)).length (cap - m)) := by
         refine .view (sz := sz') (fun i j => c (m + i) j) hb (by omega) (fun i y hy => ?_) (fun i j hi hj => ?_) (fun i j hi hj => h1' _ _ (by omega) hj) (fun i row j a hi hj => ?_)
         · exact hsz' (m + i) y (by
             rw [List.getElem?_take] at hy
             split at hy
             · rwa [List.getElem?_drop] at hy
             · cases hy)
         · have := hc (m + i) j (by omega) hj
           rw [Nat.add_mul] at this
           rw [show o' + m * sz' + i * sz' + j = o' + (m * sz' + i * sz') + j by omega]
           exact this
         · exact h (m + i) row j a (by
             rw [List.getElem?_take] at hi
             split at hi
             · rwa [List.getElem?_drop] at hi
             · cases hi) hj
        rwa [hlen] at key

theorem ok_slc_nil {t : TypeId} {x : Operand} {y : Opd} {lo hi : Option Operand} {lo' hi' : Option Opd} (ho : o.op = .slice t x lo hi none) (hx : opdOk x y = true) (hlo : optOk lo lo' = true) (hhi : optOk hi hi' = true)
    (ht : cutIs P t = true) (hy : r y = .nils) (h1 : bndIs r lo' 0 0) (h2 : bndIs r hi' 0 0) : OpOk P o r H (Is .nils H) :=
  .val fun E a hr hH => by
    have h := hr.at_ (x := x) (by simp [ho, Op.operands]) hx
    rw [hy] at h
    have g1 := bnd_run hr hlo (fun z hz => by simp [ho, Op.operands, hz]) h1
    have g2 := bnd_run hr hhi (fun z hz => by simp [ho, Op.operands, hz]) h2
    have hv : a.eval x = .slice none 0 0 := by generalize a.eval x = v at h; cases h; rfl
    obtain ⟨sz, _, hrun⟩ := run_sliceAt ht E.w (a := none) (len := 0) (cap := 0) _ _ 0 0 g1 g2 (Nat.le_refl _) (Nat.zero_le _)
    exact ⟨.slice none 0 0, by simp [execOp, ho, hv, hrun], .nils⟩

theorem ok_slc_sl {t : TypeId} {x : Operand} {y : Opd} {lo hi : Option Operand} {lo' hi' : Option Opd} {id r0 len sz : Nat} {rs : List (List AV)} {m n : Nat} (ho : o.op = .slice t x lo hi none) (hx : opdOk x y = true) (hlo : optOk lo lo' = true)
    (hhi : optOk hi hi' = true) (ht : cutIs P t = true) (hsz : sliceIs P t sz = true) (hy : r y = .sl id r0 len) (hid : H[id]? = some (.rows sz rs)) (h1 : bndIs r lo' 0 m) (h2 : bndIs r hi' len n) (hm : m ≤ n) (hn : n ≤ len) :
    OpOk P o r H (Is (.sl id (r0 + m) (n - m)) H) :=
  .val fun E a hr hH => by
    have h := hr.at_ (x := x) (by simp [ho, Op.operands]) hx
    rw [hy] at h
    have g1 := bnd_run hr hlo (fun z hz => by simp [ho, Op.operands, hz]) h1
    have g2 := bnd_run hr hhi (fun z hz => by simp [ho, Op.operands, hz]) h2
    obtain ⟨l, cap, i', hl, hv, hcap, hroom, hor, hi'⟩ := h.sl_inv hH hid (by simp)
    have hs : l.sz = sz := by cases hor with | rows cs e hs => exact hs
    obtain ⟨sz', hsz2, hrun⟩ := run_sliceAt ht E.w (a := some ⟨l.b, l.base + i' * l.sz, none⟩) (len := len) (cap := cap) _ _ m n g1 g2 hm (by omega)
    obtain ⟨e, he, hes⟩ := sliceIs_run hsz
    have e1 : sz' = sz := by
      obtain ⟨i, hi1, hi2⟩ := sizeIs_run hes
      obtain ⟨j, hj1, hj2⟩ := sizeIs_run (hsz2 e he)
      rw [hi1] at hj1
      cases hj1
      omega
    subst e1
    subst hs
    by_cases hcm : cap = m
    · -- the cut is at the end: no element, no room
      subst hcm
      refine ⟨.slice (some ⟨l.b, l.base + i' * l.sz, none⟩) (n - cap) (cap - cap), by simp [execOp, ho, hv, hrun], ?_⟩
      refine .sl (hH.id_lt hl) rfl (fun l' hl' => ?_)
      rw [hl] at hl'
      cases hl'
      obtain ⟨cs, e, fr, hb, hm'⟩ := hroom
      exact ⟨cap - cap, i', rfl, by omega, ⟨cs, e, fr, hb, Nat.le_trans (Nat.add_le_add_left (Nat.mul_le_mul_right _ (by omega)) _) hm'⟩, .inr (by omega)⟩
    · refine ⟨.slice (some ⟨l.b, l.base + (i' + m) * l.sz, none⟩) (n - m) (cap - m), by simp [execOp, ho, hv, hrun, hcm, add_addr, Nat.add_mul, Nat.add_assoc], ?_⟩
      refine .sl (hH.id_lt hl) rfl (fun l' hl' => ?_)
      rw [hl] at hl'
      cases hl'
      refine ⟨cap - m, i' + m, rfl, by omega, ?_, by omega⟩
      rwa [show i' + m + (cap - m) = i' + cap by omega]

/-! ### maps from ints -/
def mapIs (P : Program) (t : TypeId) : Bool := match P.underlying t with | some (.map k _) => (match P.underlying k with | some (.int _) => true | _ => false) | _ => false
theorem mapIs_run {t : TypeId} (h : mapIs P t = true) : ∃ k e q, P.underlying t = some (.map k e) ∧ P.underlying k = some (.int q) := by
  unfold mapIs at h
  split at h
  · rename_i k e he
    split at h
    · rename_i q hq; exact ⟨k, e, q, he, hq⟩
    · cases h
  · cases h
theorem run_checkKey {t : TypeId} {q j : IntKind} (h : P.underlying t = some (.int q)) (b : Bool) (D : Nat) (n : Int) (w : World) : (Instr.checkKey b (D + 1) t (.int j n)).run P w = .ok () w := by
  simp [Instr.checkKey, run_underlying h]

theorem findNow_at (q : IntKind) (n : Int) : ∀ (es : List (Int × AV)) (ms : List MapEntry) (i0 : Nat), ms.length = es.length → (∀ (i : Nat) x m, es[i]? = some x → ms[i]? = some m → m.key = .int .i64 x.1) →
    (∃ (j : Nat) (m : MapEntry) (x : Int × AV), Instr.findNow (.int q) (.int .i64 n) ms i0 = some (some (i0 + j, m.val)) ∧ ms[j]? = some m ∧ es[j]? = some x ∧ x.1 = n ∧ alook es n = some x.2 ∧ (∀ v, aput es n v = es.set j (n, v)) ∧ adel es n = es.eraseIdx j) ∨
    (Instr.findNow (.int q) (.int .i64 n) ms i0 = some none ∧ alook es n = none ∧ (∀ v, aput es n v = es ++ [(n, v)]) ∧ adel es n = es)
  | [], [], i0, _, _ => .inr ⟨rfl, rfl, fun v => rfl, rfl⟩
  | x :: es, m :: ms, i0, hl, hk => by
    have h0 := hk 0 x m rfl rfl
    by_cases hx : x.1 = n
    · refine .inl ⟨0, m, x, ?_, rfl, rfl, hx, by simp [alook, hx], fun v => by simp [aput, hx], by simp [adel, hx]⟩
      simp [Instr.findNow, Instr.sameNow, h0, hx]
    · have hne : ¬ n = x.1 := fun e => hx e.symm
      have hb : (x.1 == n) = false := by simpa using hx
      have hb' : (n == x.1) = false := by simpa using hne
      rcases findNow_at q n es ms (i0 + 1) (by simpa using hl) (fun i x m h1 h2 => hk (i + 1) x m (by simpa using h1) (by simpa using h2)) with ⟨j, m', x', h1, h2, h3, h4, h5, h6, h7⟩ | ⟨h1, h2, h3, h4⟩
      · refine .inl ⟨j + 1, m', x', ?_, by simpa using h2, by simpa using h3, h4, by simpa [alook, hb] using h5, fun v => by simp [aput, hx, h6], by simp [adel, hx, h7]⟩
        simp [Instr.findNow, Instr.sameNow, h0, hb', h1, Nat.add_comm, Nat.add_left_comm, Nat.add_assoc]
      · refine .inr ⟨?_, by simpa [alook, hb] using h2, fun v => by simp [aput, hx, h3], by simp [adel, hx, h4]⟩
        simp [Instr.findNow, Instr.sameNow, h0, hb', h1]
  | [], _ :: _, _, hl, _ => by simp at hl
  | _ :: _, [], _, hl, _ => by simp at hl

theorem run_findKey {k : TypeId} {q : IntKind} (h : P.underlying k = some (.int q)) (n : Int) (ms : List MapEntry) (res : Option (Nat × Value)) (hf : Instr.findNow (.int q) (.int .i64 n) ms 0 = some res) (w : World) :
    (Instr.findKey k (.int .i64 n) ms).run P w = .ok res w := by
  simp [Instr.findKey, run_underlying h, hf]

theorem VRel.map_inv {E : Env} {id : Nat} {v : Value} {ob : AObj} (hH : HRel E H) (h : VRel E (.map id) v) (ho : H[id]? = some ob) (hd : ob ≠ .dead) : ∃ l, E.s id = some l ∧ v = .map (some l.b) ∧ ORel E ob l := by
  obtain ⟨l, hl, hr⟩ := hH.get ho hd
  cases h with
  | map _ _ h => exact ⟨l, hl, h l hl, hr⟩

theorem run_getObj {w : World} {b : Nat} {ms : Array MapEntry} {ck : Nat} (h : w.heap[b]? = some (.map ms ck)) : (getObj b).run P w = .ok (.map ms ck) w := by
  simp [getObj, Sem.run, h]
theorem run_setObj {w : World} {b : Nat} {ms : Array MapEntry} {ck : Nat} (o' : Obj) (h : w.heap[b]? = some (.map ms ck)) : (setObj b o').run P w = .ok () { w with heap := w.heap.setIfInBounds b o' } := by
  simp [setObj, Sem.run, h]

theorem zero1Is_run {t : TypeId} {z : AV} (h : zero1Is P t z = true) : ∃ i v, P.info? t = some i ∧ i.zero = some v ∧ ∀ E, VRel E z v := by
  unfold zero1Is at h
  split at h
  · rename_i i hi
    split at h
    · rename_i cs hz
      split at h
      · rename_i zs
        refine ⟨i, _, hi, hz, fun E => ?_⟩
        have hc := all2_cells (E := E) h
        have e : cs = cs.toList.toArray := by simp
        rw [e]
        exact .agg (by simpa using hc.len) (fun v hv => by obtain ⟨j, hj⟩ := List.getElem?_of_mem hv; exact hc.one j v (by simpa using hj)) (fun j a v ha hv => hc.at_ j a v ha (by simpa using hv))
      · cases h
    · rename_i v _ hz; exact ⟨i, v, hi, hz, fun E => .const h⟩
    · cases h
  · cases h

/-- What a lookup answers. -/
def lookAns (z : AV) (ok : Bool) : Option AV → AV
  | some v => if ok then .tup [v, .bool true] else v
  | none => if ok then .tup [z, .bool false] else z

theorem ok_look {t : TypeId} {x i : Operand} {y j : Opd} {ok : Bool} {z : AV} {n : Int} {es : List (Int × AV)} (ho : o.op = .lookup t x i ok) (hx : opdOk x y = true) (hi : opdOk i j = true) (ht : mapIs P t = true)
    (hz : ∀ k e, P.underlying t = some (.map k e) → zero1Is P e z = true) (hj : r j = .int .i64 n) (hy : (r y = .nilm ∧ es = []) ∨ ∃ id, r y = .map id ∧ H[id]? = some (.imap es)) : OpOk P o r H (Is (lookAns z ok (alook es n)) H) :=
  .val fun E a hr hH => by
    have h := hr.at_ (x := x) (by simp [ho, Op.operands]) hx
    have h' := hr.at_ (x := i) (by simp [ho, Op.operands]) hi
    rw [hj] at h'
    have hv' := h'.int_inv
    obtain ⟨k, e, q, he, hq⟩ := mapIs_run ht
    obtain ⟨zi, zv, hzi, hzv, hzr⟩ := zero1Is_run (hz k e he)
    have hck : ∀ b, (Instr.checkKey b 10000 k (.int .i64 n)).run P E.w = .ok () E.w := fun b => run_checkKey hq b 9999 n E.w
    have tup2 : ∀ {u : AV} {v : Value} (b : Bool), VRel E u v → VRel E (.tup [u, .bool b]) (.tuple #[v, .bool b]) := fun b hu =>
      .tup (vs := [_, .bool b]) rfl (fun i a v ha hv => by
        match i, ha, hv with
        | 0, ha, hv => simp at ha hv; subst ha; subst hv; exact hu
        | 1, ha, hv => simp at ha hv; subst ha; subst hv; exact .bool b
        | i + 2, ha, hv => simp at ha)
    rcases hy with ⟨hy, rfl⟩ | ⟨id, hy, hid⟩
    · rw [hy] at h
      have hv : a.eval x = .map none := by generalize a.eval x = v at h; cases h; rfl
      have hf : (Instr.findKey k (.int .i64 n) []).run P E.w = .ok none E.w := run_findKey hq n [] none rfl E.w
      cases ok
      · exact ⟨zv, by simp [execOp, ho, hv, hv', Instr.lookup, run_underlying he, hck, hf, zeroValue, typeInfo, hzi, hzv], hzr E⟩
      · exact ⟨.tuple #[zv, .bool false], by simp [execOp, ho, hv, hv', Instr.lookup, run_underlying he, hck, hf, zeroValue, typeInfo, hzi, hzv], tup2 false (hzr E)⟩
    · rw [hy] at h
      obtain ⟨l, hl, hv, hor⟩ := h.map_inv hH hid (by simp)
      cases hor with
      | imap ms ck hb hmo hml hmk =>
        have hg := run_getObj (P := P) hb
        rcases findNow_at q n es ms.toList 0 (by simpa using hml) (fun i x m h1 h2 => (hmk i x m h1 (by simpa using h2)).1) with ⟨p, m, u, h1, h2, h3, h4, h5, _, _⟩ | ⟨h1, h2, _, _⟩
        · have hf := run_findKey hq n ms.toList _ h1 E.w
          have hrel := (hmk p u m h3 (by simpa using h2)).2
          rw [h5]
          cases ok
          · exact ⟨m.val, by simp [execOp, ho, hv, hv', Instr.lookup, run_underlying he, hg, hck, hf], hrel⟩
          · exact ⟨.tuple #[m.val, .bool true], by simp [execOp, ho, hv, hv', Instr.lookup, run_underlying he, hg, hck, hf], tup2 true hrel⟩
        · have hf := run_findKey hq n ms.toList _ h1 E.w
          rw [h2]
          cases ok
          · exact ⟨zv, by simp [execOp, ho, hv, hv', Instr.lookup, run_underlying he, hg, hck, hf, zeroValue, typeInfo, hzi, hzv], hzr E⟩
          · exact ⟨.tuple #[zv, .bool false], by simp [execOp, ho, hv, hv', Instr.lookup, run_underlying he, hg, hck, hf, zeroValue, typeInfo, hzi, hzv], tup2 false (hzr E)⟩

theorem Turned.obj {w : World} {b : Nat} {ms : Array MapEntry} {ck : Nat} (h : w.heap[b]? = some (.map ms ck)) (o' : Obj) : Turned w { w with heap := w.heap.setIfInBounds b o' } (fun c => c = b) where
  os := rfl
  tape := rfl
  output := rfl
  size := by simp
  keep := fun c _ hc => by simp only [Array.getElem?_setIfInBounds]; rw [if_neg (fun e => hc e.symm)]
  room := fun c cs e fr hc => by
    by_cases hcb : c = b
    · subst hcb; rw [h] at hc; cases hc
    · exact ⟨cs, by simp only [Array.getElem?_setIfInBounds]; rw [if_neg (fun e => hcb e.symm)]; exact hc, rfl⟩
theorem heap_set_at {w : World} {b : Nat} {ms : Array MapEntry} {ck : Nat} (h : w.heap[b]? = some (.map ms ck)) (o' : Obj) : ({ w with heap := w.heap.setIfInBounds b o' } : World).heap[b]? = some o' := by
  have hlt := (Array.getElem?_eq_some_iff.1 h).1
  simp [hlt]

theorem MOk.nil : MOk #[] 0 := ⟨fun i m h => by simp at h, fun i j m m' h => by simp at h⟩
theorem MOk.modify {ms : Array MapEntry} {ck : Nat} (h : MOk ms ck) (p : Nat) (f : MapEntry → MapEntry) (hf : ∀ m, (f m).born = m.born) : MOk (ms.modify p f) ck := by
  have key : ∀ (i : Nat) m, (ms.modify p f)[i]? = some m → ∃ m', ms[i]? = some m' ∧ m'.born = m.born := fun i m hm => by
    rw [Array.getElem?_modify] at hm
    split at hm
    · obtain ⟨m', h1, h2⟩ := Option.map_eq_some_iff.1 hm
      exact ⟨m', h1, by rw [← h2, hf]⟩
    · exact ⟨m, hm, rfl⟩
  refine ⟨fun i m hm => ?_, fun i j m m' hm hm' e => ?_⟩
  · obtain ⟨m', h1, h2⟩ := key i m hm
    rw [← h2]; exact h.old i m' h1
  · obtain ⟨n, h1, h2⟩ := key i m hm
    obtain ⟨n', h3, h4⟩ := key j m' hm'
    exact h.once i j n n' h1 h3 (by rw [h2, h4, e])
theorem MOk.push {ms : Array MapEntry} {ck : Nat} (h : MOk ms ck) (m : MapEntry) (hm : m.born = ck) : MOk (ms.push m) (ck + 1) := by
  have key : ∀ (i : Nat) n, (ms.push m)[i]? = some n → (i = ms.size ∧ n = m) ∨ ms[i]? = some n := fun i n hn => by
    rw [Array.getElem?_push] at hn
    split at hn
    · cases hn; exact .inl ⟨by assumption, rfl⟩
    · exact .inr hn
  refine ⟨fun i n hn => ?_, fun i j n n' hn hn' e => ?_⟩
  · rcases key i n hn with ⟨_, rfl⟩ | h1
    · omega
    · have := h.old i n h1; omega
  · rcases key i n hn with ⟨h1, rfl⟩ | h1 <;> rcases key j n' hn' with ⟨h2, rfl⟩ | h2
    · omega
    · have := h.old j n' h2; omega
    · have := h.old i n h1; omega
    · exact h.once i j n n' h1 h2 e
theorem MOk.erase {ms : Array MapEntry} {ck : Nat} (h : MOk ms ck) (p : Nat) : MOk (ms.eraseIdxIfInBounds p) ck := by
  have key : ∀ (i : Nat) n, (ms.eraseIdxIfInBounds p)[i]? = some n → ms[if p < ms.size ∧ p ≤ i then i + 1 else i]? = some n := fun i n hn => by
    unfold Array.eraseIdxIfInBounds at hn
    split at hn
    · rename_i hp
      rw [Array.getElem?_eraseIdx] at hn
      by_cases hi : p ≤ i
      · rw [if_pos ⟨hp, hi⟩]
        rw [if_neg (by omega)] at hn
        exact hn
      · rw [if_neg (fun h => hi h.2)]
        rw [if_pos (by omega)] at hn
        exact hn
    · rename_i hp
      rw [if_neg (fun h => hp h.1)]
      exact hn
  refine ⟨fun i n hn => h.old _ n (key i n hn), fun i j n n' hn hn' e => ?_⟩
  have := h.once _ _ n n' (key i n hn) (key j n' hn') e
  split at this <;> split at this <;> omega
theorem ok_mkmap {t : TypeId} (ho : o.op = .makeMap t none) : OpOk P o r H (Is (.map H.length) (H ++ [.imap []])) :=
  .go fun E a hr hH => by
    have tt : Turned E.w (E.w.alloc (.map #[] 0)) (fun _ => False) := .push _ rfl rfl rfl rfl
    have hnew : (E.w.alloc (.map #[] 0)).heap[E.w.heap.size]? = some (.map #[] 0) := by
      show (E.w.heap.push _)[E.w.heap.size]? = _
      simp
    obtain ⟨k1, k2⟩ := hH.bear tt (l := ⟨E.w.heap.size, 0, 0⟩) (Nat.le_refl _) (by simp) (o := .imap []) (fun x => .imap #[] 0 hnew .nil rfl (fun i y m h => by simp at h))
    refine ⟨.map (some E.w.heap.size), _, .inl (by simp [execOp, ho, Instr.makeMap]), ?_, k1, k2⟩
    refine .map (by simp [hH.n]) rfl (fun l hl => ?_)
    simp only [Sx.bear, hH.n, if_true] at hl
    cases hl
    rfl

theorem ok_mapup {t : TypeId} {x i v : Operand} {y j u : Opd} {n : Int} {id : Nat} {es : List (Int × AV)} (ho : o.op = .mapUpdate t x i v) (hx : opdOk x y = true) (hi : opdOk i j = true) (hv : opdOk v u = true) (ht : mapIs P t = true)
    (hj : r j = .int .i64 n) (hy : r y = .map id) (hid : H[id]? = some (.imap es)) : OpOk P o r H (Is .any (H.set id (.imap (aput es n (r u))))) :=
  .go fun E a hr hH => by
    have h := hr.at_ (x := x) (by simp [ho, Op.operands]) hx
    have h' := hr.at_ (x := i) (by simp [ho, Op.operands]) hi
    have h'' := hr.at_ (x := v) (by simp [ho, Op.operands]) hv
    rw [hj] at h'
    rw [hy] at h
    have hv' := h'.int_inv
    obtain ⟨k, e, q, he, hq⟩ := mapIs_run ht
    have hck : ∀ b, (Instr.checkKey b 10000 k (.int .i64 n)).run P E.w = .ok () E.w := fun b => run_checkKey hq b 9999 n E.w
    obtain ⟨l, hl, hm, hor⟩ := h.map_inv hH hid (by simp)
    cases hor with
    | imap ms ck hb hmo hml hmk =>
      have hg := run_getObj (P := P) hb
      rcases findNow_at q n es ms.toList 0 (by simpa using hml) (fun i x m h1 h2 => (hmk i x m h1 (by simpa using h2)).1) with ⟨p, m, c, h1, h2, h3, h4, h5, h6, _⟩ | ⟨h1, h2, h6, _⟩
      · have hf := run_findKey hq n ms.toList _ h1 E.w
        have hm2 : ms[p]? = some m := by simpa using h2
        have hkey : m.key = .int .i64 n := by rw [(hmk p c m h3 hm2).1, h4]
        have hstay : (Instr.keyThatStays (((ms[0 + p]?).map (·.key)).getD (.int .i64 n)) (.int .i64 n)).run P E.w = .ok (.int .i64 n) E.w := by
          rw [Nat.zero_add, hm2]
          simp [Instr.keyThatStays, hkey, Instr.sameBits]
        have hs := run_setObj (P := P) (.map (ms.modify (0 + p) fun e => { e with key := .int .i64 n, val := a.eval v }) ck) hb
        have hplt := (Array.getElem?_eq_some_iff.1 hm2).1
        obtain ⟨k1, k2⟩ := hH.write hl (Turned.obj hb (.map (ms.modify (0 + p) fun e => { e with key := .int .i64 n, val := a.eval v }) ck)) (o := .imap (aput es n (r u))) (fun xx => .imap _ ck (heap_set_at hb _) (hmo.modify _ _ fun _ => rfl) (by rw [h6]; simp [hml]) (fun i y m' hy hm' => by
          rw [h6] at hy
          simp only [Array.getElem?_modify, Nat.zero_add] at hm'
          by_cases hip : p = i
          · subst hip
            rw [List.getElem?_set_self (by omega)] at hy
            simp [hm2] at hm'
            cases hy
            subst hm'
            exact ⟨rfl, h''.ext (Nat.le_refl _) xx⟩
          · rw [List.getElem?_set_ne hip] at hy
            rw [if_neg hip] at hm'
            exact ⟨(hmk i y m' hy hm').1, (hmk i y m' hy hm').2.ext (Nat.le_refl _) xx⟩))
        refine ⟨undef, _, .inr ⟨?_, rfl⟩, .any _, k1, k2⟩
        simp only [execOp, ho, hm, hv', Instr.mapUpdate, Sem.run_bind, run_underlying he, Result.andThen_ok, hg, hck, hf, hstay, hs, Sem.run_pure]
      · have hf := run_findKey hq n ms.toList _ h1 E.w
        have hs := run_setObj (P := P) (.map (ms.push { key := .int .i64 n, val := a.eval v, born := ck }) (ck + 1)) hb
        obtain ⟨k1, k2⟩ := hH.write hl (Turned.obj hb (.map (ms.push { key := .int .i64 n, val := a.eval v, born := ck }) (ck + 1))) (o := .imap (aput es n (r u))) (fun xx => .imap _ (ck + 1) (heap_set_at hb _) (hmo.push _ rfl) (by rw [h6]; simp [hml]) (fun i y m' hy hm' => by
          rw [h6] at hy
          rw [Array.getElem?_push] at hm'
          split at hm'
          · rename_i hi'
            cases hm'
            rw [List.getElem?_append_right (by omega), hi', hml] at hy
            simp at hy
            subst hy
            exact ⟨rfl, h''.ext (Nat.le_refl _) xx⟩
          · have hlt := (Array.getElem?_eq_some_iff.1 hm').1
            rw [List.getElem?_append_left (by omega)] at hy
            exact ⟨(hmk i y m' hy hm').1, (hmk i y m' hy hm').2.ext (Nat.le_refl _) xx⟩))
        refine ⟨undef, _, .inr ⟨?_, rfl⟩, .any _, k1, k2⟩
        simp only [execOp, ho, hm, hv', Instr.mapUpdate, Sem.run_bind, run_underlying he, Result.andThen_ok, hg, hck, hf, hs, Sem.run_pure]

theorem ok_del {x i : Operand} {y j : Opd} {ts : Array TypeId} {t : TypeId} {n : Int} {id : Nat} {es : List (Int × AV)} (ho : o.op = .call { callee := .builtin .delete, args := #[x, i], argTypes := ts }) (hts : ts[0]? = some t) (hx : opdOk x y = true)
    (hi : opdOk i j = true) (ht : mapIs P t = true) (hj : r j = .int .i64 n) (hy : r y = .map id) (hid : H[id]? = some (.imap es)) : OpOk P o r H (Is (.tup []) (H.set id (.imap (adel es n)))) :=
  .go fun E a hr hH => by
    have h := hr.at_ (x := x) (by simp [ho, Op.operands, Call.operands]) hx
    have h' := hr.at_ (x := i) (by simp [ho, Op.operands, Call.operands]) hi
    rw [hj] at h'
    rw [hy] at h
    have hv' := h'.int_inv
    obtain ⟨k, e, q, he, hq⟩ := mapIs_run ht
    have hck : ∀ b, (Instr.checkKey b 10000 k (.int .i64 n)).run P E.w = .ok () E.w := fun b => run_checkKey hq b 9999 n E.w
    obtain ⟨l, hl, hm, hor⟩ := h.map_inv hH hid (by simp)
    have t0 : ∀ E', VRel E' (.tup []) (.tuple #[]) := fun E' => .tup (vs := []) rfl (fun i a v h => by simp at h)
    cases hor with
    | imap ms ck hb hmo hml hmk =>
      have hg := run_getObj (P := P) hb
      rcases findNow_at q n es ms.toList 0 (by simpa using hml) (fun i x m h1 h2 => (hmk i x m h1 (by simpa using h2)).1) with ⟨p, m, c, h1, h2, h3, h4, h5, _, h6⟩ | ⟨h1, h2, _, h6⟩
      · have hf := run_findKey hq n ms.toList _ h1 E.w
        have hm2 : ms[p]? = some m := by simpa using h2
        have hplt := (Array.getElem?_eq_some_iff.1 hm2).1
        have hs := run_setObj (P := P) (.map (ms.eraseIdxIfInBounds (0 + p)) ck) hb
        have herase : (ms.eraseIdxIfInBounds (0 + p)).toList = ms.toList.eraseIdx p := by simp [Array.eraseIdxIfInBounds, hplt]
        obtain ⟨k1, k2⟩ := hH.write hl (Turned.obj hb (.map (ms.eraseIdxIfInBounds (0 + p)) ck)) (o := .imap (adel es n)) (fun xx => .imap _ ck (heap_set_at hb _) (hmo.erase _) (by
          rw [h6, ← Array.length_toList, herase, List.length_eraseIdx_of_lt (by simpa using hplt), List.length_eraseIdx_of_lt (by omega)]; simp [hml]) (fun i y m' hy hm' => by
          rw [h6] at hy
          rw [← Array.getElem?_toList, herase] at hm'
          rw [List.getElem?_eraseIdx] at hy hm'
          split at hy
          · rename_i hlt
            rw [if_pos hlt] at hm'
            exact ⟨(hmk i y m' hy (by simpa using hm')).1, (hmk i y m' hy (by simpa using hm')).2.ext (Nat.le_refl _) xx⟩
          · rename_i hlt
            rw [if_neg hlt] at hm'
            exact ⟨(hmk _ y m' hy (by simpa using hm')).1, (hmk _ y m' hy (by simpa using hm')).2.ext (Nat.le_refl _) xx⟩))
        refine ⟨.tuple #[], _, .inl ?_, t0 _, k1, k2⟩
        rw [call_builtin _ _ _ _ _ ho]
        simp only [builtin, Builtin.delete_, List.map_toArray, List.map_cons, List.map_nil, hm, hv', hts, Sem.run_bind, List.getElem?_toArray, List.getElem?_cons_zero, List.getElem?_cons_succ, run_underlying he, Result.andThen_ok, hg, hck, hf, hs, Sem.run_pure]
      · have hf := run_findKey hq n ms.toList _ h1 E.w
        have hs := run_setObj (P := P) (.map ms ck) hb
        obtain ⟨k1, k2⟩ := hH.write hl (Turned.obj hb (.map ms ck)) (o := .imap (adel es n)) (fun xx => .imap _ ck (heap_set_at hb _) hmo (by rw [h6]; exact hml) (fun i y m' hy hm' => by
          rw [h6] at hy
          exact ⟨(hmk i y m' hy hm').1, (hmk i y m' hy hm').2.ext (Nat.le_refl _) xx⟩))
        refine ⟨.tuple #[], _, .inl ?_, t0 _, k1, k2⟩
        rw [call_builtin _ _ _ _ _ ho]
        simp only [builtin, Builtin.delete_, List.map_toArray, List.map_cons, List.map_nil, hm, hv', hts, Sem.run_bind, List.getElem?_toArray, List.getElem?_cons_zero, List.getElem?_cons_succ, run_underlying he, Result.andThen_ok, hg, hck, hf, hs, Sem.run_pure]

theorem ok_lenm {x : Operand} {y : Opd} {t : TypeId} {es : List (Int × AV)} (ho : o.op = .call { callee := .builtin .len, args := #[x], argTypes := #[t] }) (hx : opdOk x y = true) (ht : mapIs P t = true)
    (hy : (r y = .nilm ∧ es = []) ∨ ∃ id, r y = .map id ∧ H[id]? = some (.imap es)) : OpOk P o r H (Is (.int .i64 es.length) H) :=
  .val fun E a hr hH => by
    have h := hr.at_ (x := x) (by simp [ho, Op.operands, Call.operands]) hx
    obtain ⟨k, e, q, he, hq⟩ := mapIs_run ht
    refine ⟨.int .i64 es.length, ?_, .int _ _⟩
    rw [call_builtin _ _ _ _ _ ho]
    rcases hy with ⟨hy, rfl⟩ | ⟨id, hy, hid⟩
    · rw [hy] at h
      have hv : a.eval x = .map none := by generalize a.eval x = v at h; cases h; rfl
      simp [builtin, Builtin.len_, hv, run_underlying he, goInt]
    · rw [hy] at h
      obtain ⟨l, hl, hv, hor⟩ := h.map_inv hH hid (by simp)
      cases hor with
      | imap ms ck hb hmo hml hmk => simp [builtin, Builtin.len_, hv, run_underlying he, goInt, run_getObj hb, hml]

/-! ### calls -/
theorem ok_call {f : Operand} {f' : Opd} {args : Array Operand} {as : List Opd} {ts : Array TypeId} {g : FuncId} {caps free : List AV} {K : AV → List AObj → Prop} (ho : o.op = .call { callee := .value f, args, argTypes := ts }) (hf : opdOk f f' = true)
    (ha : opdsOk args.toList as = true) (hr' : r f' = .fn g caps free) (h : ACall P g (caps ++ as.map r ++ free) H K) : OpOk P o r H K := by
  intro E a next Q hr hH hn
  have h1 := hr.at_ (x := f) (by simp [ho, Op.operands, Call.operands]) hf
  rw [hr'] at h1
  obtain ⟨vs, ws, hv, h2, h3⟩ := h1.fn_inv
  have h4 := hr.list ha (fun x hx => by simp only [ho, Op.operands, Call.operands]; exact Array.mem_append.2 (.inr (Array.mem_toList_iff.1 hx)))
  obtain ⟨hc, h⟩ := h
  have hcall := h E _ hH ((h2.append h4).append h3)
  unfold callable at hc
  split at hc
  · rename_i fn hfn
    simp only [Bool.and_eq_true, Bool.not_eq_true'] at hc
    have hb : fn.body.isNone = false := by cases hb : fn.body <;> simp [hb] at hc ⊢
    have e1 : (vs.toArray ++ args.map a.eval) ++ ws.toArray = (vs ++ args.toList.map a.eval ++ ws).toArray := by
      apply Array.ext'
      simp
    have hrun : (execOp a.eval o).run P E.w = .ok (.enter g (vs ++ args.toList.map a.eval ++ ws).toArray) E.w := by
      rw [← e1]
      have hname : ¬ fn.name = "runtime.NumGoroutine" := by have := hc.1; simpa using this
      have hbody : ¬ fn.body = none := fun e => by simp [e] at hb
      simp [execOp, ho, resolve, hv, Deferred.ofValue, invoke, callFunc, hfn]
      rw [if_neg hname, if_neg hbody]
    simp only [Oper.wp, hrun, Oper.upon]
    refine hcall.mono fun e w' he => ?_
    obtain ⟨v, E', x, H', rfl, rfl, hv', hH', hx, hK⟩ := he
    exact hn v E' x H' hv' hH' (by rw [hH.n]; exact hx) hK
  · cases hc
end
end Go.Proofs.Ytnjpfoblmomnlaa.Sx
/- That == between structs and arrays of numbers and bools is == of their cells. No conditions: a kit of our own. -/
namespace Go.Proofs.Ytnjpfoblmomnlaa.Sx
open Go Go.RowKit
set_option linter.unusedVariables false
set_option linter.unusedSimpArgs false

def fieldLeafs (P : Program) (rec : TypeId → Option (List Bool)) : List Field → Nat → Option (List Bool)
  | [], _ => some []
  | f :: fs, off => if f.offset == off && !(f.name == "_") then (match rec f.type with
      | some ks => if sizeIs P f.type ks.length then (match fieldLeafs P rec fs (off + ks.length) with | some js => some (ks ++ js) | none => none) else none
      | none => none) else none
/-- A type of numbers and bools alone: which of its cells are bools. -/
def leafs (P : Program) : Nat → TypeId → Option (List Bool)
  | 0, _ => none
  | d + 1, t => match P.underlying t with
    | some (.int _) => some [false]
    | some .bool => some [true]
    | some (.struct fs) => if P.stoodInHeld t then none else fieldLeafs P (leafs P d) fs.toList 0
    | some (.array n e) => (match leafs P d e with | some ks => if sizeIs P e ks.length then some (List.replicate n ks).flatten else none | none => none)
    | _ => none

inductive LeafRel : List Bool → List Value → List Value → Bool → Prop
  | nil : LeafRel [] [] [] true
  | int {ks : List Bool} {xs ys : List Value} {r : Bool} (k : IntKind) (m n : Int) (h : LeafRel ks xs ys r) : LeafRel (false :: ks) (.int k m :: xs) (.int k n :: ys) (decide (m = n) && r)
  | bool {ks : List Bool} {xs ys : List Value} {r : Bool} (p q : Bool) (h : LeafRel ks xs ys r) : LeafRel (true :: ks) (.bool p :: xs) (.bool q :: ys) ((p == q) && r)

theorem LeafRel.len {ks : List Bool} {xs ys : List Value} {r : Bool} (h : LeafRel ks xs ys r) : xs.length = ks.length ∧ ys.length = ks.length := by
  induction h with
  | nil => exact ⟨rfl, rfl⟩
  | int k m n h ih => simp [ih.1, ih.2]
  | bool p q h ih => simp [ih.1, ih.2]
theorem LeafRel.split : ∀ (k1 : List Bool) {k2 : List Bool} {xs ys : List Value} {r : Bool}, LeafRel (k1 ++ k2) xs ys r → ∃ x1 x2 y1 y2 r1 r2, xs = x1 ++ x2 ∧ ys = y1 ++ y2 ∧ LeafRel k1 x1 y1 r1 ∧ LeafRel k2 x2 y2 r2 ∧ r = (r1 && r2)
  | [], k2, xs, ys, r, h => ⟨[], xs, [], ys, true, r, rfl, rfl, .nil, h, by simp⟩
  | b :: k1, k2, xs, ys, r, h => by
    cases h with
    | int k m n h =>
      obtain ⟨x1, x2, y1, y2, r1, r2, rfl, rfl, h1, h2, rfl⟩ := LeafRel.split k1 h
      exact ⟨_, x2, _, y2, _, r2, rfl, rfl, .int k m n h1, h2, by rw [Bool.and_assoc]⟩
    | bool p q h =>
      obtain ⟨x1, x2, y1, y2, r1, r2, rfl, rfl, h1, h2, rfl⟩ := LeafRel.split k1 h
      exact ⟨_, x2, _, y2, _, r2, rfl, rfl, .bool p q h1, h2, by rw [Bool.and_assoc]⟩

/-- A value of a type, out of its cells. -/
def pack (P : Program) (t : TypeId) (xs : List Value) : Value := match P.underlying t with
  | some (.struct _) | some (.array _ _) => .agg xs.toArray
  | _ => xs.getD 0 undef

section
variable {P : Program}
theorem run_part_pack (t : TypeId) (pre xs post : List Value) (h : sizeIs P t xs.length = true) (hu : ∃ d, P.underlying t = some d) (h1 : (∀ fs, P.underlying t ≠ some (.struct fs)) → (∀ n e, P.underlying t ≠ some (.array n e)) → xs.length = 1) (w : World) :
    (part t (pre ++ xs ++ post).toArray pre.length).run P w = .ok (pack P t xs) w := by
  obtain ⟨d, hd⟩ := hu
  have hex : ((pre ++ xs ++ post).toArray.extract pre.length (pre.length + xs.length)) = xs.toArray := by
    apply Array.ext'
    simp [List.extract_eq_take_drop]
  have hone : (∀ fs, d ≠ .struct fs) → (∀ n e, d ≠ .array n e) → (pre ++ xs ++ post)[pre.length]? = some (xs.getD 0 undef) := fun a b => by
    have hl := h1 (fun fs e => a fs (by rw [hd] at e; cases e; rfl)) (fun n e e' => b n e (by rw [hd] at e'; cases e'; rfl))
    match xs, hl with
    | [x], _ => simp
  cases d <;> first
    | (simp [part, isAgg, run_underlying hd, pack, hd, run_sizeOf h, hex]; done)
    | (have := hone (fun _ e => by cases e) (fun _ _ e => by cases e)
       simp [part, isAgg, run_underlying hd, pack, hd] at this ⊢
       simp [this])

theorem leafs_one {d : Nat} {t : TypeId} {ks : List Bool} (h : leafs P d t = some ks) : (∃ q, P.underlying t = some q) ∧ ((∀ fs, P.underlying t ≠ some (.struct fs)) → (∀ n e, P.underlying t ≠ some (.array n e)) → ks.length = 1) := by
  cases d with
  | zero => simp [leafs] at h
  | succ d =>
    unfold leafs at h
    split at h <;> rename_i hu
    · cases h; exact ⟨⟨_, hu⟩, fun _ _ => rfl⟩
    · cases h; exact ⟨⟨_, hu⟩, fun _ _ => rfl⟩
    · exact ⟨⟨_, hu⟩, fun a _ => absurd hu (a _)⟩
    · exact ⟨⟨_, hu⟩, fun _ b => absurd hu (b _ _)⟩
    · cases h

theorem eqFields_leafs {d D : Nat} (ih : ∀ t ks, leafs P d t = some ks → ∀ xs ys r, LeafRel ks xs ys r → ∀ w, (Op.equalIn D t (pack P t xs) (pack P t ys)).run P w = .ok r w) :
    ∀ (fs : List Field) (off : Nat) (ks : List Bool), fieldLeafs P (leafs P d) fs off = some ks → ∀ (px py xs ys : List Value) (r : Bool), px.length = off → py.length = off → LeafRel ks xs ys r → ∀ w,
      (Op.eqFields D (px ++ xs).toArray (py ++ ys).toArray fs).run P w = .ok r w
  | [], off, ks, h, px, py, xs, ys, r, _, _, hr, w => by
    simp [fieldLeafs] at h
    subst h
    cases hr
    simp [Op.eqFields]
  | f :: fs, off, ks, h, px, py, xs, ys, r, hpx, hpy, hr, w => by
    simp only [fieldLeafs] at h
    split at h
    · rename_i hf
      simp only [Bool.and_eq_true, beq_iff_eq, Bool.not_eq_true', beq_eq_false_iff_ne] at hf
      obtain ⟨hoff, hname⟩ := hf
      split at h
      · rename_i k1 hk1
        split at h
        · rename_i hs
          split at h
          · rename_i k2 hk2
            cases h
            obtain ⟨x1, x2, y1, y2, r1, r2, rfl, rfl, h1, h2, rfl⟩ := LeafRel.split k1 hr
            have l1 := h1.len
            obtain ⟨hu, hone⟩ := leafs_one hk1
            have p1 := run_part_pack f.type px x1 x2 (by rw [l1.1]; exact hs) hu (fun a b => by rw [l1.1]; exact hone a b) w
            have p2 := run_part_pack f.type py y1 y2 (by rw [l1.2]; exact hs) hu (fun a b => by rw [l1.2]; exact hone a b) w
            have e := ih f.type k1 hk1 x1 y1 r1 h1 w
            have rest := eqFields_leafs ih fs (off + k1.length) k2 hk2 (px ++ x1) (py ++ y1) x2 y2 r2 (by simp [hpx, l1.1]) (by simp [hpy, l1.2]) h2 w
            rw [hpx, ← hoff] at p1
            rw [hpy, ← hoff] at p2
            simp only [List.append_assoc] at p1 p2 rest
            rw [Op.eqFields]
            rw [if_pos hname]
            simp only [Sem.run_bind, p1, p2, e, Result.andThen_ok]
            cases r1
            · simp
            · simp [rest]
          · cases h
        · cases h
      · cases h
    · cases h

theorem eqItems_leafs {d D : Nat} {e : TypeId} {ks : List Bool} (hk : leafs P d e = some ks) (hs : sizeIs P e ks.length = true) (ih : ∀ xs ys r, LeafRel ks xs ys r → ∀ w, (Op.equalIn D e (pack P e xs) (pack P e ys)).run P w = .ok r w) :
    ∀ (n i0 : Nat) (px py xs ys : List Value) (r : Bool), px.length = i0 * ks.length → py.length = i0 * ks.length → LeafRel (List.replicate n ks).flatten xs ys r → ∀ w,
      (Op.eqItems D e ks.length (px ++ xs).toArray (py ++ ys).toArray (List.range' i0 n)).run P w = .ok r w
  | 0, i0, px, py, xs, ys, r, _, _, hr, w => by
    simp at hr
    cases hr
    simp [Op.eqItems]
  | n + 1, i0, px, py, xs, ys, r, hpx, hpy, hr, w => by
    rw [List.replicate_succ, List.flatten_cons] at hr
    obtain ⟨x1, x2, y1, y2, r1, r2, rfl, rfl, h1, h2, rfl⟩ := LeafRel.split ks hr
    have l1 := h1.len
    obtain ⟨hu, hone⟩ := leafs_one hk
    have p1 := run_part_pack e px x1 x2 (by rw [l1.1]; exact hs) hu (fun a b => by rw [l1.1]; exact hone a b) w
    have p2 := run_part_pack e py y1 y2 (by rw [l1.2]; exact hs) hu (fun a b => by rw [l1.2]; exact hone a b) w
    have ee := ih x1 y1 r1 h1 w
    have rest := eqItems_leafs hk hs ih n (i0 + 1) (px ++ x1) (py ++ y1) x2 y2 r2 (by simp [hpx, l1.1, Nat.succ_mul]) (by simp [hpy, l1.2, Nat.succ_mul]) h2 w
    rw [hpx] at p1
    rw [hpy] at p2
    simp only [List.append_assoc] at p1 p2 rest
    rw [List.range'_succ, Op.eqItems]
    simp only [Sem.run_bind, p1, p2, ee, Result.andThen_ok]
    cases r1
    · simp
    · simp [rest]

theorem eqIn_leafs : ∀ (d : Nat) (t : TypeId) (ks : List Bool), leafs P d t = some ks → ∀ (D : Nat), d ≤ D → ∀ xs ys r, LeafRel ks xs ys r → ∀ w, (Op.equalIn D t (pack P t xs) (pack P t ys)).run P w = .ok r w
  | 0, t, ks, h, _, _, _, _, _, _, _ => by simp [leafs] at h
  | d + 1, t, ks, h, 0, hD, _, _, _, _, _ => by omega
  | d + 1, t, ks, h, D + 1, hD, xs, ys, r, hr, w => by
    have ih := fun t ks h => eqIn_leafs d t ks h D (by omega)
    unfold leafs at h
    split at h <;> rename_i hu
    · cases h
      cases hr with
      | int k m n h =>
        cases h
        simp [pack, hu, run_equalIn_int (P := P) w D t k _ m n hu]
        rfl
    · cases h
      cases hr with
      | bool p q h =>
        cases h
        simp [pack, hu, run_equalIn_bool (P := P) w D t p q hu]
    · split at h
      · cases h
      · rename_i fs hst
        have hf : P.fieldsOf t = fs := by simp [Program.fieldsOf, hu]
        have hst' : P.stoodInHeld t = false := by simpa using hst
        simp only [pack, hu]
        rw [run_equalIn_struct (P := P) w D t _ _ (by rw [hf]; exact hu) hst', hf]
        have := eqFields_leafs ih fs.toList 0 ks h [] [] xs ys r rfl rfl hr w
        simpa using this
    · split at h
      · rename_i n e ok k1 hk1
        split at h
        · rename_i hs
          cases h
          obtain ⟨i, hi, his⟩ := sizeIs_run hs
          have hc : P.cellsOf e = k1.length := by simp [Program.cellsOf, hi, his]
          simp only [pack, hu]
          rw [run_equalIn_array w D _ _ hu hi, hc, List.range_eq_range']
          have := eqItems_leafs hk1 hs (ih e k1 hk1) n 0 [] [] xs ys r (by simp) (by simp) hr w
          simpa using this
        · cases h
      · cases h
    · cases h

def eqcIs (P : Program) (t : TypeId) (ks : List Bool) : Bool := decide (leafs P 20 t = some ks) && !P.eqGuardType P.depth t && (match P.underlying t with | some (.struct _) | some (.array _ _) => true | _ => false)

theorem eqCells_some : ∀ {ks : List Bool} {a b : List AV} {k : Bool → Prop}, eqCells ks a b k → ∃ r, k r ∧ ∀ E (vs ws : List Value), VRels E a vs → VRels E b ws → LeafRel ks vs ws r
  | [], [], [], k, h => ⟨true, h, fun E vs ws h1 h2 => by
      have := h1.len; have := h2.len
      match vs, ws with
      | [], [] => exact .nil⟩
  | false :: ks, .int x m :: as, .int y n :: bs, k, h => by
    obtain ⟨rfl, h⟩ := h
    obtain ⟨r, h1, h2⟩ := eqCells_some h
    refine ⟨_, h1, fun E vs ws h3 h4 => ?_⟩
    have l3 := h3.len
    have l4 := h4.len
    match vs, ws, l3, l4 with
    | v :: vs, w :: ws, l3, l4 =>
      have e1 := (h3.at_ 0 _ v rfl rfl).int_inv
      have e2 := (h4.at_ 0 _ w rfl rfl).int_inv
      subst e1
      subst e2
      exact .int x m n (h2 E vs ws ⟨by simpa using l3, fun i a v ha hv => h3.at_ (i + 1) a v (by simpa using ha) (by simpa using hv)⟩ ⟨by simpa using l4, fun i a v ha hv => h4.at_ (i + 1) a v (by simpa using ha) (by simpa using hv)⟩)
  | true :: ks, .bool p :: as, .bool q :: bs, k, h => by
    have h : eqCells ks as bs (fun r => k ((p == q) && r)) := h
    obtain ⟨r, h1, h2⟩ := eqCells_some h
    refine ⟨_, h1, fun E vs ws h3 h4 => ?_⟩
    have l3 := h3.len
    have l4 := h4.len
    match vs, ws, l3, l4 with
    | v :: vs, w :: ws, l3, l4 =>
      have e1 := (h3.at_ 0 _ v rfl rfl).bool_inv
      have e2 := (h4.at_ 0 _ w rfl rfl).bool_inv
      subst e1
      subst e2
      exact .bool p q (h2 E vs ws ⟨by simpa using l3, fun i a v ha hv => h3.at_ (i + 1) a v (by simpa using ha) (by simpa using hv)⟩ ⟨by simpa using l4, fun i a v ha hv => h4.at_ (i + 1) a v (by simpa using ha) (by simpa using hv)⟩)

variable {o : Oper} {r : Opd → AV} {H : List AObj}
theorem ok_eqc {neg : Bool} {t u : TypeId} {x y : Operand} {x' y' : Opd} {ks : List Bool} {a b : List AV} {k : Bool → Prop} (ho : o.op = .binOp (if neg then .neq else .eql) t x y u) (ht : eqcIs P t ks = true) (hx : opdOk x x' = true) (hy : opdOk y y' = true)
    (h1 : r x' = .agg a) (h2 : r y' = .agg b) (h : eqCells ks a b k) : ∃ z, OpOk P o r H (Is (.bool (if neg then !z else z)) H) ∧ k z := by
  obtain ⟨z, hz, hrel⟩ := eqCells_some h
  refine ⟨z, .val fun E a' hr hH => ?_, hz⟩
  simp only [eqcIs, Bool.and_eq_true, decide_eq_true_eq, Bool.not_eq_true'] at ht
  obtain ⟨⟨hl, hg⟩, hagg⟩ := ht
  have e1 := hr.at_ (x := x) (by simp [ho, Op.operands]) hx
  have e2 := hr.at_ (x := y) (by simp [ho, Op.operands]) hy
  rw [h1] at e1
  rw [h2] at e2
  obtain ⟨vs, hv, l1, _, f1⟩ := e1.agg_inv
  obtain ⟨ws, hw, l2, _, f2⟩ := e2.agg_inv
  have hpk : ∀ l, pack P t l = .agg l.toArray := fun l => by
    unfold pack
    split at hagg <;> rename_i hu
    · simp [hu]
    · simp [hu]
    · cases hagg
  have heq := eqIn_leafs 20 t ks hl 10000 (by omega) vs ws z (hrel E vs ws ⟨l1, f1⟩ ⟨l2, f2⟩) E.w
  rw [hpk, hpk] at heq
  cases neg
  · exact ⟨.bool z, by simp at ho; simp [execOp, ho, hv, hw, run_eqGuard_agg (P := P) E.w _ t _ _ _ _ hg, run_eql_struct, heq], .bool _⟩
  · exact ⟨.bool (!z), by simp at ho; simp [execOp, ho, hv, hw, run_eqGuard_agg (P := P) E.w _ t _ _ _ _ hg, run_neq_struct, heq], .bool _⟩
end
end Go.Proofs.Ytnjpfoblmomnlaa.Sx
