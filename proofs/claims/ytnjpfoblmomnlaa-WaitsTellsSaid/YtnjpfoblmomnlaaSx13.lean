/- More operations: slices without room behind, their append, 'clear', bytes as a string, two strings held against each other. No conditions: a kit of our own. -/
import Derived.Test.YtnjpfoblmomnlaaSx12
namespace Go.Proofs.Ytnjpfoblmomnlaa.Sx
open Go Go.RowKit
set_option linter.unusedVariables false
set_option linter.unusedSimpArgs false

section
variable {P : Program} {o : Oper} {r : Opd → AV} {H : List AObj}

theorem VRel.cv_inv {E : Env} {es : List (List AV)} {v : Value} (h : VRel E (.cv es) v) : VRel E (.view es) v ∧ ∃ a, v = .slice a es.length es.length := by
  cases h with
  | cv h hc =>
    obtain ⟨a, n, rfl⟩ := hc
    refine ⟨h, ?_⟩
    cases h with
    | view0 => exact ⟨_, rfl⟩
    | view => exact ⟨_, rfl⟩

/-- An append to a slice without room behind: a new row. -/
theorem ok_app_cv {d s : Operand} {d' s' : Opd} {ts : Array TypeId} {sz : Nat} {es rows : List (List AV)} (ho : o.op = .call { callee := .builtin .append, args := #[d, s], argTypes := ts }) (hd : opdOk d d' = true) (hs : opdOk s s' = true)
    (ht : appIs P ts sz = true) (h1 : r d' = .cv es) (h2 : srcRows H (r s') (fun y => y = rows)) (h3 : ∀ y ∈ rows, y.length = sz) (he3 : ∀ y ∈ es, y.length = sz) (h4 : rows ≠ []) (h5 : es.length + rows.length ≤ mostRows) :
    OpOk P o r H (Is (.sl H.length 0 (es.length + rows.length)) (H ++ [.rows sz (es ++ rows)])) :=
  .go fun E a hr hH => by
    obtain ⟨t, u, e, e', i, z, rfl, he, he', hi, his, hib, hz, hzs, hsz⟩ := appIs_run ht
    have g1 := hr.at_ (x := d) (by simp [ho, Op.operands, Call.operands]) hd
    have g2 := hr.at_ (x := s) (by simp [ho, Op.operands, Call.operands]) hs
    rw [h1] at g1
    obtain ⟨gview, q, gv⟩ := g1.cv_inv
    obtain ⟨news, hsrc, hrows⟩ := src_of hH g2 h2 h3 hsz
    have hpos : 0 < rows.length := List.length_pos_iff.2 h4
    subst his
    rw [gv] at gview
    obtain ⟨olds, osrc, orows⟩ := src_of (P := P) (sz := i.size) (rows := es) hH gview (by simp [srcRows]) he3 hsz
    have hall : ∀ y ∈ es ++ rows, y.length = i.size := fun y hy => by
      rcases List.mem_append.1 hy with hy | hy
      · exact he3 y hy
      · exact h3 y hy
    obtain ⟨c, hc, hrun⟩ := run_append_new (ty := o.type) he he' hi hz E.w osrc.run hsrc (by omega) h5 hib
    have both := orows.append hrows
    have tt : Turned E.w (E.w.drew.alloc (.cells (olds.toArray ++ news.toArray ++ Builtin.zeroCells z.cells (c - (es.length + rows.length))) e)) (fun _ => False) := .push _ rfl rfl rfl rfl
    have hnew : (E.w.drew.alloc (.cells (olds.toArray ++ news.toArray ++ Builtin.zeroCells z.cells (c - (es.length + rows.length))) e)).heap[E.w.heap.size]? = some (.cells (olds.toArray ++ news.toArray ++ Builtin.zeroCells z.cells (c - (es.length + rows.length))) e (0, 0)) := by
      show (E.w.heap.push _)[E.w.heap.size]? = _
      simp
    have hbl := both.len
    have hsize : (olds.toArray ++ news.toArray ++ Builtin.zeroCells z.cells (c - (es.length + rows.length))).size = c * i.size := by
      rw [Array.size_append, zeroCells_size hzs]
      simp only [List.length_append] at hbl
      simp [hbl]
      rw [← Nat.add_mul]; congr 1; omega
    obtain ⟨k1, k2⟩ := hH.bear tt (l := ⟨E.w.heap.size, 0, i.size⟩) (Nat.le_refl _) (by simp) (o := .rows i.size (es ++ rows)) (fun x =>
      rows_cells (e := e) hnew (by rw [hsize, List.length_append]; simp; exact Nat.mul_le_mul_right _ hc) hall (fun k row j hk hj => by
        obtain ⟨v, v1, v3⟩ := both.at_ k row j hk hj
        have hlt := (List.getElem?_eq_some_iff.1 v1).1
        exact ⟨v, by rw [Array.getElem?_append_left (by simpa using hlt)]; simpa using v1, both.one v (List.mem_of_getElem? v1), fun a ha => (v3 a ha).ext (Nat.le_refl _) x⟩))
    refine ⟨.slice (some ⟨E.w.heap.size, 0, none⟩) (es.length + rows.length) c, _, .inl ?_, ?_, k1, k2⟩
    · rw [call_builtin _ _ _ _ _ ho]
      simp only [builtin, List.map_toArray, List.map_cons, List.map_nil, gv, Sem.run_bind, hrun, Result.andThen_ok]
      simp
    · refine .sl (by simp [hH.n]) rfl (fun l hl => ?_)
      simp only [Sx.bear, hH.n, if_true] at hl
      cases hl
      exact ⟨c, 0, by simp, hc, ⟨_, e, (0, 0), hnew, by rw [hsize]; simp⟩, .inl rfl⟩

/-! ### cuts that leave no room -/
theorem run_sliceAt3 {t : TypeId} (ht : cutIs P t = true) (w : World) {a : Option Addr} {len cap : Nat} (n : Nat) {k k' : IntKind} (hn : n ≤ cap) :
    (Instr.sliceAt t (.slice a len cap) none (some (.int k n)) (some (.int k' n))).run P w = .ok (.slice (if n = 0 then a else a.map (·.add 0)) n n) w := by
  unfold cutIs at ht
  split at ht
  · rename_i e he
    obtain ⟨i, hi'⟩ := Option.isSome_iff_exists.1 ht
    have h1 : (0 : Int) ≤ n := by omega
    have h3 : (n : Int) ≤ cap := by omega
    have hb : (Instr.sliceBounds true len cap none (some (.int k n)) (some (.int k' n))).run P w = .ok (0, n, n) w := by
      simp [Instr.sliceBounds, Instr.sliceBound, asIntOf, h1, h3, hn]
    simp [Instr.sliceAt, Instr.slice, run_underlying he, hb, sizeOf, typeInfo, hi']
  · cases ht
theorem add_zero_opt (n : Nat) (b o' : Nat) : (if n = 0 then some (⟨b, o', none⟩ : Addr) else (some (⟨b, o', none⟩ : Addr)).map (·.add 0)) = some ⟨b, o', none⟩ := by
  split <;> simp [add_addr]
theorem ok_slc3_nil {t : TypeId} {x hi mx : Operand} {y hi' mx' : Opd} {k k' : IntKind} (ho : o.op = .slice t x none (some hi) (some mx)) (hx : opdOk x y = true) (hhi : opdOk hi hi' = true) (hmx : opdOk mx mx' = true)
    (ht : cutIs P t = true) (hy : r y = .nils) (h1 : r hi' = .int k 0) (h2 : r mx' = .int k' 0) : OpOk P o r H (Is .nils H) :=
  .val fun E a hr hH => by
    have h := hr.at_ (x := x) (by simp [ho, Op.operands]) hx
    have g1 := hr.at_ (x := hi) (by simp [ho, Op.operands]) hhi
    have g2 := hr.at_ (x := mx) (by simp [ho, Op.operands]) hmx
    rw [hy] at h; rw [h1] at g1; rw [h2] at g2
    have hv : a.eval x = .slice none 0 0 := by generalize a.eval x = v at h; cases h; rfl
    have hrun := run_sliceAt3 (P := P) ht E.w (a := none) (len := 0) (cap := 0) 0 (k := k) (k' := k') (Nat.le_refl _)
    simp only [Int.natCast_zero] at hrun
    refine ⟨_, by simp [execOp, ho, hv, g1.int_inv, g2.int_inv, hrun]; rfl, ?_⟩
    exact .nils
theorem ok_slc3_view {t : TypeId} {x hi mx : Operand} {y hi' mx' : Opd} {es : List (List AV)} {n : Nat} {k k' : IntKind} (ho : o.op = .slice t x none (some hi) (some mx)) (hx : opdOk x y = true) (hhi : opdOk hi hi' = true) (hmx : opdOk mx mx' = true)
    (ht : cutIs P t = true) (hy : r y = .view es ∨ r y = .cv es) (h1 : r hi' = .int k n) (h2 : r mx' = .int k' n) (hn : n ≤ es.length) : OpOk P o r H (Is (.cv (es.take n)) H) :=
  .val fun E a hr hH => by
    have h0 := hr.at_ (x := x) (by simp [ho, Op.operands]) hx
    have h : VRel E (.view es) (a.eval x) := by
      rcases hy with hy | hy <;> rw [hy] at h0
      · exact h0
      · exact h0.cv_inv.1
    have g1 := hr.at_ (x := hi) (by simp [ho, Op.operands]) hhi
    have g2 := hr.at_ (x := mx) (by simp [ho, Op.operands]) hmx
    rw [h1] at g1; rw [h2] at g2
    generalize hv : a.eval x = v at h
    cases h with
    | view0 q cap =>
      have e0 : n = 0 := by simpa using hn
      subst e0
      have hrun := run_sliceAt3 (P := P) ht E.w (a := q) (len := 0) (cap := cap) 0 (k := k) (k' := k') (Nat.zero_le _)
      refine ⟨.slice q 0 0, by simp [execOp, ho, hv, g1.int_inv, g2.int_inv] at hrun ⊢; rw [hrun]; rfl, ?_⟩
      exact .cv (.view0 _ _) ⟨_, _, rfl⟩
    | view c hb hcap hsz' hc h1' h =>
      rename_i b o' cap sz'
      have hrun := run_sliceAt3 (P := P) ht E.w (a := some ⟨b, o', none⟩) (len := es.length) (cap := cap) n (k := k) (k' := k') (by omega)
      rw [add_zero_opt] at hrun
      refine ⟨.slice (some ⟨b, o', none⟩) n n, by simp [execOp, ho, hv, g1.int_inv, g2.int_inv, hrun], .cv ?_ ⟨_, _, rfl⟩⟩
      have hlen : (es.take n).length = n := by simp; omega
      have key : VRel E (.view (es.take n)) (.slice (some ⟨b, o', none⟩) (es.take n).length n) := by
        refine .view (sz := sz') c hb (by omega) (fun i y hy => ?_) (fun i j hi hj => hc i j (by omega) hj) (fun i j hi hj => h1' i j (by omega) hj) (fun i row j a hi hj => ?_)
        · rw [List.getElem?_take] at hy
          split at hy
          · exact hsz' i y hy
          · cases hy
        · rw [List.getElem?_take] at hi
          split at hi
          · exact h i row j a hi hj
          · cases hi
      rwa [hlen] at key
theorem ok_slc3_sl {t : TypeId} {x hi mx : Operand} {y hi' mx' : Opd} {id r0 len sz n : Nat} {rs : List (List AV)} {k k' : IntKind} (ho : o.op = .slice t x none (some hi) (some mx)) (hx : opdOk x y = true) (hhi : opdOk hi hi' = true) (hmx : opdOk mx mx' = true)
    (ht : cutIs P t = true) (hy : r y = .sl id r0 len) (hid : H[id]? = some (.rows sz rs)) (h1 : r hi' = .int k n) (h2 : r mx' = .int k' n) (hn : n ≤ len) : OpOk P o r H (Is (.sl id r0 n) H) :=
  .val fun E a hr hH => by
    have h := hr.at_ (x := x) (by simp [ho, Op.operands]) hx
    have g1 := hr.at_ (x := hi) (by simp [ho, Op.operands]) hhi
    have g2 := hr.at_ (x := mx) (by simp [ho, Op.operands]) hmx
    rw [hy] at h; rw [h1] at g1; rw [h2] at g2
    obtain ⟨l, cap, i', hl, hv, hcap, hroom, hor, hi'⟩ := h.sl_inv hH hid (by simp)
    have hrun := run_sliceAt3 (P := P) ht E.w (a := some ⟨l.b, l.base + i' * l.sz, none⟩) (len := len) (cap := cap) n (k := k) (k' := k') (by omega)
    rw [add_zero_opt] at hrun
    refine ⟨.slice (some ⟨l.b, l.base + i' * l.sz, none⟩) n n, by simp [execOp, ho, hv, g1.int_inv, g2.int_inv, hrun], ?_⟩
    refine .sl (hH.id_lt hl) rfl (fun l' hl' => ?_)
    rw [hl] at hl'; cases hl'
    refine ⟨n, i', rfl, Nat.le_refl _, ?_, by omega⟩
    obtain ⟨cs, e, fr, hb, hm⟩ := hroom
    exact ⟨cs, e, fr, hb, by have := Nat.mul_le_mul_right l.sz (show i' + n ≤ i' + cap by omega); omega⟩

/-! ### strings -/
def bytesIs (P : Program) (src dst : TypeId) : Bool := (match P.underlying src with | some (.slice e) => (match P.underlying e with | some (.int .u8) => sizeIs P e 1 | _ => false) | _ => false) && (match P.underlying dst with | some .string => true | _ => false)
theorem bytesIs_run {src dst : TypeId} (h : bytesIs P src dst = true) : ∃ e, P.underlying src = some (.slice e) ∧ P.underlying e = some (.int .u8) ∧ P.underlying dst = some .string := by
  simp only [bytesIs, Bool.and_eq_true] at h
  obtain ⟨h1, h2⟩ := h
  split at h1
  · rename_i e he
    split at h1
    · rename_i he'
      split at h2
      · rename_i hd; exact ⟨e, he, he', hd⟩
      · cases h2
    · cases h1
  · cases h1
theorem ok_strb {src dst : TypeId} {x : Operand} {y : Opd} {rows : List (List AV)} (ho : o.op = .convert src dst x) (hx : opdOk x y = true) (ht : bytesIs P src dst = true) (h2 : srcRows H (r y) (fun z => z = rows)) (h3 : ∀ z ∈ rows, ∃ n, z = [.int .u8 n]) :
    OpOk P o r H (Is (.str (strOfNums (rows.map fun z => numOfCell z))) H) :=
  .val fun E a hr hH => by
    have h := hr.at_ (x := x) (by simp [ho, Op.operands]) hx
    obtain ⟨e, he, he', hd⟩ := bytesIs_run ht
    obtain ⟨news, hsrc, hrows⟩ := src_of (P := P) (sz := 1) hH h h2 (fun z hz => by obtain ⟨n, rfl⟩ := h3 z hz; rfl) (by omega)
    have hnews : news = (rows.map fun z => numOfCell z).map (Value.int .u8) := by
      apply List.ext_getElem?
      intro k
      have hl := hrows.len
      rw [Nat.mul_one] at hl
      by_cases hk : k < rows.length
      · have hrk : rows[k]? = some rows[k] := List.getElem?_eq_getElem hk
        obtain ⟨v, v1, v2⟩ := hrows.at_ k _ 0 hrk (by omega)
        obtain ⟨n, hn⟩ := h3 _ (List.mem_of_getElem? hrk)
        have := (v2 (.int .u8 n) (by rw [hn]; rfl)).int_inv
        simp only [Nat.mul_one, Nat.add_zero] at v1
        rw [v1, this]
        simp [hk, hn, numOfCell]
      · rw [List.getElem?_eq_none (by omega), List.getElem?_eq_none (by simp; omega)]
    have hrun : (convert src dst (a.eval x)).run P E.w = .ok (.string (strOfNums (rows.map fun z => numOfCell z))) E.w := by
      have hsl : ∃ q n c, a.eval x = .slice q n c := by
        generalize a.eval x = v at h
        generalize hry : r y = w at h h2
        cases w <;> simp only [srcRows] at h2 <;> first | exact h2.elim | skip
        · cases h; exact ⟨_, _, _, rfl⟩
        · rename_i id r0 len
          split at h2
          · rename_i sz' rs hid
            obtain ⟨l, cap, _, hl, rfl, _⟩ := h.sl_inv hH hid (by simp)
            exact ⟨_, _, _, rfl⟩
          · exact h2.elim
        · cases h <;> exact ⟨_, _, _, rfl⟩
        · obtain ⟨_, q, e⟩ := h.cv_inv; exact ⟨_, _, _, e⟩
      obtain ⟨q, n, c, hv⟩ := hsl
      rw [hv] at hsrc ⊢
      have hlen := hsrc.len E.w
      simp [Builtin.lenOf] at hlen
      have hr2 := hsrc.run E.w rfl
      cases q with
      | none =>
        rw [run_convert_bytes_nil E.w src e he he' n c dst hd]
        have hn0 : news = [] := by
          have := hr2
          simp [Builtin.firstCells] at this
          first | exact this | exact this.symm
        rw [hn0] at hnews
        have : (rows.map fun z => numOfCell z) = [] := by simpa using hnews.symm
        rw [this]; rfl
      | some q =>
        rw [run_convert_bytes_string E.w src dst e _ n c he he' hd]
        simp [Builtin.firstCells] at hr2
        rw [run_bytesToString E.w q n c (rows.map fun z => numOfCell z) (by rw [hlen, hr2, hnews]), foldl_push_bytes]
        simp [strOfNums, ByteArray.empty, ByteArray.emptyWithCapacity]
        rfl
    exact ⟨_, by simp [execOp, ho, hrun], .str _⟩
theorem ok_eqs {neg : Bool} {t u : TypeId} {x y : Operand} {x' y' : Opd} {p q : ByteArray} (ho : o.op = .binOp (if neg then .neq else .eql) t x y u) (hx : opdOk x x' = true) (hy : opdOk y y' = true)
    (h1 : r x' = .str p) (h2 : r y' = .str q) : OpOk P o r H (Is (.bool (if neg then !(p.toList == q.toList) else p.toList == q.toList)) H) :=
  .val fun E a hr hH => by
    have e1 := hr.at_ (x := x) (by simp [ho, Op.operands]) hx
    have e2 := hr.at_ (x := y) (by simp [ho, Op.operands]) hy
    rw [h1] at e1
    rw [h2] at e2
    have e1 : a.eval x = .string p := by generalize a.eval x = v at e1; cases e1; rfl
    have e2 : a.eval y = .string q := by generalize a.eval y = v at e2; cases e2; rfl
    cases neg
    · exact ⟨.bool (p.toList == q.toList), by simp at ho; simp [execOp, ho, e1, e2, eqGuard_at_string, binOp_string_eql], .bool _⟩
    · exact ⟨.bool (!(p.toList == q.toList)), by simp at ho; simp [execOp, ho, e1, e2, eqGuard_at_string, binOp_string_neq], .bool _⟩

/-! ### clear -/
def clrIs (P : Program) (ts : Array TypeId) (sz : Nat) (z : List AV) : Bool := match ts.toList with
  | [t] => (match P.underlying t with | some (.slice e) => sizeIs P e sz && zeroIs P e z && decide (0 < sz) | _ => false)
  | _ => false
theorem clrIs_run {ts : Array TypeId} {sz : Nat} {z : List AV} (h : clrIs P ts sz z = true) : ∃ t e, ts = #[t] ∧ P.underlying t = some (.slice e) ∧ sizeIs P e sz = true ∧ zeroIs P e z = true ∧ 0 < sz := by
  unfold clrIs at h
  split at h
  · rename_i t ht
    split at h
    · rename_i e he
      simp only [Bool.and_eq_true, decide_eq_true_eq] at h
      exact ⟨t, e, by cases ts; simp at ht; subst ht; rfl, he, h.1.1, h.1.2, h.2⟩
    · cases h
  · cases h
theorem ok_clr0 {x : Operand} {y : Opd} {ts : Array TypeId} {sz : Nat} {z : List AV} (ho : o.op = .call { callee := .builtin .clear, args := #[x], argTypes := ts }) (hx : opdOk x y = true) (ht : clrIs P ts sz z = true) (hy : r y = .nils ∨ r y = .view []) :
    OpOk P o r H (Is (.tup []) H) :=
  .val fun E a hr hH => by
    have h := hr.at_ (x := x) (by simp [ho, Op.operands, Call.operands]) hx
    obtain ⟨t, e, rfl, he, _, _, _⟩ := clrIs_run ht
    have hv : ∃ q c, a.eval x = .slice q 0 c := by
      rcases hy with hy | hy <;> rw [hy] at h <;> generalize a.eval x = v at h
      · cases h; exact ⟨_, _, rfl⟩
      · cases h <;> exact ⟨_, _, rfl⟩
    obtain ⟨q, c, hv⟩ := hv
    refine ⟨.tuple #[], ?_, .tup (vs := []) rfl fun i a v h => by simp at h⟩
    rw [call_builtin _ _ _ _ _ ho]
    cases q <;> simp [builtin, Builtin.clear_, hv, run_underlying he]
theorem ok_clr_sl {x : Operand} {y : Opd} {ts : Array TypeId} {sz id r0 len : Nat} {z : List AV} {rs : List (List AV)} (ho : o.op = .call { callee := .builtin .clear, args := #[x], argTypes := ts }) (hx : opdOk x y = true) (ht : clrIs P ts sz z = true) (hy : r y = .sl id r0 len)
    (hid : H[id]? = some (.rows sz rs)) (hzl : z.length = sz) (hle : r0 + len ≤ rs.length) : OpOk P o r H (Is (.tup []) (H.set id (.rows sz (rs.take r0 ++ List.replicate len z ++ rs.drop (r0 + len))))) :=
  .go fun E a hr hH => by
    have h := hr.at_ (x := x) (by simp [ho, Op.operands, Call.operands]) hx
    obtain ⟨t, e, rfl, he, hsz, hzi, hpos⟩ := clrIs_run ht
    rw [hy] at h
    obtain ⟨l, cap, i', hl, hv, hcap, hroom, hor, hi'⟩ := h.sl_inv hH hid (by simp)
    by_cases h0 : len = 0
    · subst h0
      have e1 : H.set id (.rows sz (rs.take r0 ++ List.replicate 0 z ++ rs.drop (r0 + 0))) = H := by
        obtain ⟨hi, e⟩ := List.getElem?_eq_some_iff.1 hid
        simp only [List.replicate_zero, List.append_nil, Nat.add_zero, List.take_append_drop]
        rw [← e]; exact List.set_getElem_self hi
      rw [e1]
      refine ⟨.tuple #[], E, .inl ?_, .tup (vs := []) rfl (fun i a v h => by simp at h), hH, Ext.refl (Nat.le_refl _)⟩
      rw [call_builtin _ _ _ _ _ ho]
      simp [builtin, Builtin.clear_, hv, run_underlying he]
    · obtain rfl : r0 = i' := (hi'.resolve_right (by omega)).symm
      obtain ⟨i, zv, hi, hzv, hcr⟩ := zeroIs_run hzi
      have hzs := (hcr E).len
      cases hor with
      | rows cs e0 hs' hb hlen hrr h1' hh =>
        subst hs'
        have hnl : (Builtin.zeroCells zv.cells len).toList.length = len * l.sz := by
          rw [Array.length_toList, size_zeroCells, hzs, hzl]
        have hm1 : r0 * l.sz + len * l.sz ≤ rs.length * l.sz := by rw [← Nat.add_mul]; exact Nat.mul_le_mul_right _ hle
        have hzc : ∀ k, k < len * l.sz → (Builtin.zeroCells zv.cells len).toList[k]? = zv.cells[k % l.sz]? := fun k hk => by
          have hlt : k < (Builtin.zeroCells zv.cells len).toList.length := by rw [hnl]; exact hk
          rw [List.getElem?_eq_getElem hlt]
          have hmod : k % l.sz < zv.cells.size := by rw [hzs, hzl]; exact Nat.mod_lt _ hpos
          rw [Array.getElem?_eq_getElem hmod]
          simp only [Builtin.zeroCells, Array.getElem_toList, Array.getElem_map, Array.getElem_range, hzs, hzl, Option.some.injEq]
          rw [getElem!_pos zv.cells _ hmod]
        generalize hnews : (Builtin.zeroCells zv.cells len).toList = news at *
        have hone : ∀ v ∈ news, v.oneCell' = true := fun v hv => by
          obtain ⟨k, hk⟩ := List.getElem?_of_mem hv
          have hlt := (List.getElem?_eq_some_iff.1 hk).1
          rw [hzc k (by omega)] at hk
          exact (hcr E).one _ v hk
        have hst := run_storeCells_at P l.b (l.base + r0 * l.sz) e0 news 0 cs E.w hb (by omega) hone
        simp only [Nat.add_zero] at hst
        have tt := Turned.row (cs' := (cs.toList.take (l.base + r0 * l.sz) ++ news ++ cs.toList.drop (l.base + r0 * l.sz + news.length)).toArray) hb (by simp; omega)
        obtain ⟨h2, h3⟩ := hH.write hl tt (o := .rows l.sz (rs.take r0 ++ List.replicate len z ++ rs.drop (r0 + len))) (fun x => by
          have hg := splice_get rs r0 (List.replicate len z) (by simpa using hle)
          simp only [List.length_replicate] at hg
          refine .mk (e := e0) rfl (setRow_heap E.w l.b cs _ e0 _ hb) (by simp; rw [show min r0 rs.length + (len + (rs.length - (r0 + len))) = rs.length by omega]; omega) (fun k q hk => ?_) (fun k q j hk hj => ?_)
          · rw [hg] at hk
            split at hk
            · rw [List.getElem?_replicate] at hk
              split at hk
              · cases hk; exact hzl
              · cases hk
            · exact hrr k q hk
          · have hkl : k < rs.length := by have := (List.getElem?_eq_some_iff.1 hk).1; simp at this; omega
            have hmk := (mul_step (sz := l.sz) hkl (Nat.le_refl rs.length)).1
            have hcell : cs[l.base + k * l.sz + j]? = some (cs[l.base + k * l.sz + j]'(by omega)) := Array.getElem?_eq_getElem (by omega)
            have hget := splice_get cs.toList (l.base + r0 * l.sz) news (by simp; omega) (l.base + k * l.sz + j)
            simp only [List.getElem?_toArray]
            rw [hget]
            rw [hg] at hk
            by_cases hin : r0 ≤ k ∧ k < r0 + len
            · rw [if_pos hin] at hk
              rw [List.getElem?_replicate] at hk
              have hrk := Nat.mul_le_mul_right l.sz hin.1
              have hrk2 := (mul_step (sz := l.sz) (show k - r0 < len by omega) (Nat.le_refl len)).1
              have e3 : k * l.sz = r0 * l.sz + (k - r0) * l.sz := by rw [← Nat.add_mul]; congr 1; omega
              split at hk
              · cases hk
                rw [if_pos (by omega), show l.base + k * l.sz + j - (l.base + r0 * l.sz) = (k - r0) * l.sz + j by omega, hzc _ (by omega)]
                rw [show ((k - r0) * l.sz + j) % l.sz = j by rw [Nat.mul_comm, Nat.mul_add_mod, Nat.mod_eq_of_lt hj]]
                obtain ⟨v, v1, v2, v3⟩ := (hcr E).get (j := j) (by omega)
                exact ⟨v, v1, v2, fun a ha => (v3 a ha).ext (Nat.le_refl _) x⟩
              · cases hk
            · rw [if_neg hin] at hk
              have hout : ¬ (l.base + r0 * l.sz ≤ l.base + k * l.sz + j ∧ l.base + k * l.sz + j < l.base + r0 * l.sz + news.length) := by
                rcases Nat.lt_or_ge k r0 with hlt | hge
                · have := (mul_step (sz := l.sz) hlt (Nat.le_refl r0)).1; omega
                · have := Nat.mul_le_mul_right l.sz (show r0 + len ≤ k by omega); rw [Nat.add_mul] at this; omega
              rw [if_neg hout]
              exact ⟨_, (by rw [Array.getElem?_toList]; exact hcell), h1' (k * l.sz + j) _ (by omega) (by rw [← Nat.add_assoc]; exact hcell), fun a ha => (hh k q j a _ hk ha hcell).ext (Nat.le_refl _) x⟩)
        refine ⟨.tuple #[], _, .inl ?_, .tup (vs := []) rfl (fun i a v h => by simp at h), h2, h3⟩
        rw [call_builtin _ _ _ _ _ ho]
        obtain ⟨m, rfl⟩ : ∃ m, len = m + 1 := ⟨len - 1, by omega⟩
        have hz2 : ∀ w, (zeroValue e).run P w = .ok zv w := fun w => by simp [zeroValue, typeInfo, hi, hzv]
        simp [builtin, Builtin.clear_, hv, run_underlying he, hz2, hnews, hst]
end
end Go.Proofs.Ytnjpfoblmomnlaa.Sx
/- The whole: an operation of the small language that stands for one of the machine's does what it says. No conditions: a kit of our own. -/
namespace Go.Proofs.Ytnjpfoblmomnlaa.Sx
open Go Go.RowKit
set_option linter.unusedVariables false
set_option linter.unusedSimpArgs false

def isEq (op : BinOp) (neg : Bool) : Bool := match op, neg with | .eql, false => true | .neq, true => true | _, _ => false
theorem isEq_spec {op : BinOp} {neg : Bool} (h : isEq op neg = true) : op = if neg then .neq else .eql := by
  cases op <;> cases neg <;> first | rfl | (cases h; done)

def fltIs (P : Program) (t : TypeId) : Bool := match P.underlying t with | some (.float .f64) => true | _ => false
theorem fltIs_spec {P : Program} {t : TypeId} (h : fltIs P t = true) : P.underlying t = some (.float .f64) := by
  unfold fltIs at h; split at h <;> first | assumption | cases h
def elIs (P : Program) (t : TypeId) (g : Option Nat) : Bool := match P.underlying t with | some (.array _ e) => aggIs P e g | _ => false
def primOk (P : Program) (o : Oper) (p : Prim) (ys : List Opd) : Bool := match p with
  | .i2f => (match o.op with | .convert src dst x => (match ys with | [x'] => some_ P src && fltIs P dst && opdOk x x' | _ => false) | _ => false)
  | .f2i => (match o.op with | .convert src dst x => (match ys with | [x'] => some_ P src && intIs P dst .i64 && opdOk x x' | _ => false) | _ => false)
  | .cplx => (match o.op with | .call { callee := .builtin .complex, args, argTypes := _ } => (match args.toList, ys with | [x, y], [x', y'] => opdOk x x' && opdOk y y' | _, _ => false) | _ => false)
  | .re => (match o.op with | .call { callee := .builtin .real, args, argTypes := _ } => (match args.toList, ys with | [x], [x'] => opdOk x x' | _, _ => false) | _ => false)
  | .im => (match o.op with | .call { callee := .builtin .imag, args, argTypes := _ } => (match args.toList, ys with | [x], [x'] => opdOk x x' | _, _ => false) | _ => false)
  | .cadd => (match o.op with | .binOp .add _ x y _ => (match ys with | [x', y'] => opdOk x x' && opdOk y y' | _ => false) | _ => false)
  | .csub => (match o.op with | .binOp .sub _ x y _ => (match ys with | [x', y'] => opdOk x x' && opdOk y y' | _ => false) | _ => false)
  | .idx g n sz => (match o.op with | .index t x i => (match ys with | [x', i'] => arrIs P t n sz && elIs P t g && opdOk x x' && opdOk i i' | _ => false) | _ => false)
  | .cmul => (match o.op with | .binOp .mul _ x y _ => (match ys with | [x', y'] => opdOk x x' && opdOk y y' | _ => false) | _ => false)
/-- io stands for o. -/
def okOp (P : Program) (o : Oper) (io : IOp) : Bool := match io with
  | .mv y => (match o.op with | .move x => opdOk x y | .assign x => opdOk x y | _ => false)
  | .pick c' x' y' => (match o.op with | .pick c x y => opdOk c c' && opdOk x x' && opdOk y y' | _ => false)
  | .alloc z => (match o.op with | .alloc t => zeroIs P t z | _ => false)
  | .box y => (match o.op with | .box _ x => opdOk x y | _ => false)
  | .build z qs => (match o.op with | .build t ps => buildIs P t z ps.toList qs | _ => false)
  | .rowOwn sz qs => (match o.op with | .buildSlice t n ps => rowsIs P t sz n ps.toList qs | _ => false)
  | .rowView sz qs => (match o.op with | .buildSlice t n ps => rowsIs P t sz n ps.toList qs | _ => false)
  | .ld g _ y => (match o.op with | .load t x => aggIs P t g && opdOk x y | _ => false)
  | .st n y u => (match o.op with | .store t x v => sizeIs P t n && opdOk x y && opdOk v u | _ => false)
  | .nilc y => (match o.op with | .nilCheck x => opdOk x y | _ => false)
  | .fa off y => (match o.op with | .fieldAddr s x f => fieldIs P s f off && opdOk x y | _ => false)
  | .fld g off y => (match o.op with | .field s x f => fldIs P s f off g && opdOk x y | _ => false)
  | .ia sz _ y j => (match o.op with | .indexAddr t x i => sliceIs P t sz && opdOk x y && opdOk i j | _ => false)
  | .iaa len sz y j => (match o.op with | .indexAddr t x i => arrIs P t len sz && opdOk x y && opdOk i j | _ => false)
  | .bin op' x' y' => (match o.op with | .binOp op _ x y _ => decide (op = op') && opdOk x x' && opdOk y y' | _ => false)
  | .binw op' x' y' => (match o.op with | .binOp op _ x y _ => decide (op = op') && opdOk x x' && opdOk y y' | _ => false)
  | .eqb neg x' y' => (match o.op with | .binOp op t x y _ => isEq op neg && (match P.underlying t with | some .bool => true | _ => false) && opdOk x x' && opdOk y y' | _ => false)
  | .eqc neg ks x' y' => (match o.op with | .binOp op t x y _ => isEq op neg && eqcIs P t ks && opdOk x x' && opdOk y y' | _ => false)
  | .eqnil neg kd x' => (match o.op with | .binOp op t x y _ => isEq op neg && nilKd P t kd && nilIs P t y && opdOk x x' | _ => false)
  | .not y => (match o.op with | .unOp .not _ x => opdOk x y | _ => false)
  | .neg y => (match o.op with | .unOp .neg _ x => opdOk x y | _ => false)
  | .cvi k y => (match o.op with | .convert src dst x => some_ P src && intIs P dst k && opdOk x y | _ => false)
  | .cvw k y => (match o.op with | .convert src dst x => some_ P src && intIs P dst k && opdOk x y | _ => false)
  | .ext i y => (match o.op with | .extract x j => i == j && opdOk x y | _ => false)
  | .mkfn f fs cs => (match o.op with | .makeFunc (.func g) first caps => f == g && opdsOk first.toList fs && opdsOk caps.toList cs | _ => false)
  | .call f' as => (match o.op with | .call { callee := .value f, args, argTypes := _ } => opdOk f f' && opdsOk args.toList as | _ => false)
  | .app sz d' s' => (match o.op with | .call { callee := .builtin .append, args, argTypes } => (match args.toList with | [d, s] => opdOk d d' && opdOk s s' && appIs P argTypes sz | _ => false) | _ => false)
  | .mkslice sz z l' c' => (match o.op with | .makeSlice t l c => makeIs P t sz z && opdOk l l' && opdOk c c' | _ => false)
  | .slc sz y lo' hi' => (match o.op with | .slice t x lo hi none => cutIs P t && sliceIs P t sz && opdOk x y && optOk lo lo' && optOk hi hi' | _ => false)
  | .slc3 sz y hi' mx' => (match o.op with | .slice t x none (some hi) (some mx) => cutIs P t && sliceIs P t sz && opdOk x y && opdOk hi hi' && opdOk mx mx' | _ => false)
  | .clr sz z y => (match o.op with | .call { callee := .builtin .clear, args, argTypes } => (match args.toList with | [x] => opdOk x y && clrIs P argTypes sz z | _ => false) | _ => false)
  | .strb y => (match o.op with | .convert src dst x => bytesIs P src dst && opdOk x y | _ => false)
  | .eqs neg x' y' => (match o.op with | .binOp op t x y _ => isEq op neg && opdOk x x' && opdOk y y' | _ => false)
  | .len y => (match o.op with | .call { callee := .builtin .len, args, argTypes } => (match args.toList, argTypes.toList with
      | [x], [t] => opdOk x y && (match P.underlying t with | some (.slice e) => (P.info? e).isSome | _ => false) | _, _ => false) | _ => false)
  | .lenm y => (match o.op with | .call { callee := .builtin .len, args, argTypes } => (match args.toList, argTypes.toList with | [x], [t] => opdOk x y && mapIs P t | _, _ => false) | _ => false)
  | .mkmap => (match o.op with | .makeMap _ none => true | _ => false)
  | .look z ok y j => (match o.op with | .lookup t x i ok' => ok == ok' && mapIs P t && (match P.underlying t with | some (.map _ e) => zero1Is P e z | _ => false) && opdOk x y && opdOk i j | _ => false)
  | .mapup y j u => (match o.op with | .mapUpdate t x i v => mapIs P t && opdOk x y && opdOk i j && opdOk v u | _ => false)
  | .del y j => (match o.op with | .call { callee := .builtin .delete, args, argTypes } => (match args.toList, argTypes.toList with | [x, i], t :: _ => opdOk x y && opdOk i j && mapIs P t | _, _ => false) | _ => false)
  | .mn ys => (match o.op with | .call { callee := .builtin .min, args, argTypes := _ } => (match args.toList, ys with | [x, y], [x', y'] => opdOk x x' && opdOk y y' | _, _ => false) | _ => false)
  | .mx ys => (match o.op with | .call { callee := .builtin .max, args, argTypes := _ } => (match args.toList, ys with | [x, y], [x', y'] => opdOk x x' && opdOk y y' | _, _ => false) | _ => false)
  | .prim p ys => primOk P o p ys

section
variable {P : Program} {o : Oper} {r : Opd → AV} {H : List AObj} {k : AV → List AObj → Prop}

theorem arr1 {α : Type} {a : Array α} {x : α} (h : a.toList = [x]) : a = #[x] := by
  cases a; simp at h; subst h; rfl
theorem arr2 {α : Type} {a : Array α} {x y : α} (h : a.toList = [x, y]) : a = #[x, y] := by
  cases a; simp at h; subst h; rfl

/-! ### conversions, complex numbers -/
theorem VRel.val_inv {E : Env} {v w : Value} (h : VRel E (.val v) w) : w = v := by cases h; rfl
theorem ok_i2f {src dst : TypeId} {x : Operand} {y : Opd} {j : IntKind} {n : Int} (ho : o.op = .convert src dst x) (hs : some_ P src = true) (hd : P.underlying dst = some (.float .f64)) (hx : opdOk x y = true) (hy : r y = .int j n) :
    OpOk P o r H (Is (.val (.float .f64 (floatOfInt .f64 n))) H) :=
  .val fun E a hr hH => by
    have h := hr.at_ (x := x) (by simp [ho, Op.operands]) hx
    rw [hy] at h
    have hv := h.int_inv
    exact ⟨.float .f64 (floatOfInt .f64 n), by simp [execOp, ho, hv, run_convert_int_float _ src dst j .f64 n hs hd], .val _⟩
theorem primV_f2i {a v : AV} (h : primV .f2i [a] = some v) : ∃ b n, a = .val (.float .f64 b) ∧ floatToIntVal .f64 b .i64 = some n ∧ v = .int .i64 n := by
  unfold primV at h
  split at h <;> first | (simp at *; done) | skip
  rename_i b _ heq
  simp at heq
  subst heq
  rw [fT_eq] at h
  simp only [Option.map_eq_some_iff] at h
  obtain ⟨n, h1, rfl⟩ := h
  exact ⟨b, n, rfl, h1, rfl⟩
theorem primV_re {a v : AV} (h : primV .re [a] = some v) : ∃ b c, a = .val (.complex .f64 b c) ∧ v = .val (.float .f64 b) := by
  unfold primV at h
  split at h <;> first | (simp at *; done) | skip
  rename_i b c _ heq
  simp at heq
  subst heq
  exact ⟨b, c, rfl, (Option.some.inj h).symm⟩
theorem primV_im {a v : AV} (h : primV .im [a] = some v) : ∃ b c, a = .val (.complex .f64 b c) ∧ v = .val (.float .f64 c) := by
  unfold primV at h
  split at h <;> first | (simp at *; done) | skip
  rename_i b c _ heq
  simp at heq
  subst heq
  exact ⟨b, c, rfl, (Option.some.inj h).symm⟩
theorem primV_cplx {a b v : AV} (h : primV .cplx [a, b] = some v) : ∃ x y, a = .val (.float .f64 x) ∧ b = .val (.float .f64 y) ∧ v = .val (.complex .f64 x y) := by
  unfold primV at h
  split at h <;> first | (simp at *; done) | skip
  rename_i x y _ heq
  simp at heq
  obtain ⟨rfl, rfl⟩ := heq
  exact ⟨x, y, rfl, rfl, (Option.some.inj h).symm⟩
theorem ok_f2i {src dst : TypeId} {x : Operand} {y : Opd} {v : AV} (ho : o.op = .convert src dst x) (hs : some_ P src = true) (hd : intIs P dst .i64 = true) (hx : opdOk x y = true) (hv : primV .f2i ([y].map r) = some v) : OpOk P o r H (Is v H) := by
  obtain ⟨b, n, hy, hn, rfl⟩ := primV_f2i hv
  refine .val fun E a hr hH => ?_
  have h := hr.at_ (x := x) (by simp [ho, Op.operands]) hx
  rw [hy] at h
  have hw := h.val_inv
  unfold intIs at hd
  split at hd
  · rename_i q hq
    simp at hd
    subst hd
    exact ⟨.int .i64 n, by simp [execOp, ho, hw, run_convert_float_int _ src dst .f64 .i64 b n hs hq hn], .int _ _⟩
  · cases hd
theorem primV_idx {g : Option Nat} {n sz : Nat} {a b v : AV} (h : primV (.idx g n sz) [a, b] = some v) : ∃ cs k i, a = .agg cs ∧ b = .int k i ∧ 0 ≤ i ∧ i < n ∧ rdv g cs (i.toNat * sz) = some v := by
  unfold primV at h
  split at h <;> first | (simp at *; done) | skip
  rename_i g' n' sz' cs k i e1 heq
  simp at heq e1
  obtain ⟨rfl, rfl⟩ := heq
  obtain ⟨rfl, rfl, rfl⟩ := e1
  split at h
  · rename_i hc; exact ⟨cs, k, i, rfl, rfl, hc.1, hc.2, h⟩
  · cases h
theorem ok_idx {t : TypeId} {x i : Operand} {x' i' : Opd} {g : Option Nat} {n sz : Nat} {v : AV} (ho : o.op = .index t x i) (ha : arrIs P t n sz = true) (he : elIs P t g = true) (hx : opdOk x x' = true) (hi : opdOk i i' = true) (hv : primV (.idx g n sz) ([x', i'].map r) = some v) : OpOk P o r H (Is v H) := by
  obtain ⟨cs, k, m, h1, h2, h3, h4, h5⟩ := primV_idx hv
  refine .val fun E a hr hH => ?_
  have e1 := hr.at_ (x := x) (by simp [ho, Op.operands]) hx
  have e2 := hr.at_ (x := i) (by simp [ho, Op.operands]) hi
  rw [h1] at e1
  rw [h2] at e2
  obtain ⟨vs, hvs, hl, h6, h7⟩ := e1.agg_inv
  have e2 := e2.int_inv
  unfold arrIs at ha
  split at ha
  · rename_i n' e hu
    simp only [Bool.and_eq_true, beq_iff_eq] at ha
    obtain ⟨rfl, hs⟩ := ha
    simp only [elIs, hu] at he
    obtain ⟨w, h8, h9⟩ := run_part he hl h6 h7 h5
    exact ⟨w, by simp [execOp, ho, hvs, e2, Instr.index, asIntOf, underlying, hu, h3, h4, run_sizeOf hs, h8], h9⟩
  · cases ha
theorem ok_re {x : Operand} {y : Opd} {ts : Array TypeId} {v : AV} (ho : o.op = .call { callee := .builtin .real, args := #[x], argTypes := ts }) (hx : opdOk x y = true) (hv : primV .re ([y].map r) = some v) : OpOk P o r H (Is v H) := by
  obtain ⟨b, c, hy, rfl⟩ := primV_re hv
  refine .val fun E a hr hH => ?_
  have h := hr.at_ (x := x) (by simp [ho, Op.operands, Call.operands]) hx
  rw [hy] at h
  have hw := h.val_inv
  refine ⟨.float .f64 b, ?_, .val _⟩
  rw [call_builtin _ _ _ _ _ ho]
  simp [builtin, hw, run_real]
theorem ok_im {x : Operand} {y : Opd} {ts : Array TypeId} {v : AV} (ho : o.op = .call { callee := .builtin .imag, args := #[x], argTypes := ts }) (hx : opdOk x y = true) (hv : primV .im ([y].map r) = some v) : OpOk P o r H (Is v H) := by
  obtain ⟨b, c, hy, rfl⟩ := primV_im hv
  refine .val fun E a hr hH => ?_
  have h := hr.at_ (x := x) (by simp [ho, Op.operands, Call.operands]) hx
  rw [hy] at h
  have hw := h.val_inv
  refine ⟨.float .f64 c, ?_, .val _⟩
  rw [call_builtin _ _ _ _ _ ho]
  simp [builtin, hw, run_imag]
theorem ok_cplx {x y : Operand} {x' y' : Opd} {ts : Array TypeId} {v : AV} (ho : o.op = .call { callee := .builtin .complex, args := #[x, y], argTypes := ts }) (hx : opdOk x x' = true) (hy : opdOk y y' = true) (hv : primV .cplx ([x', y'].map r) = some v) : OpOk P o r H (Is v H) := by
  obtain ⟨b, c, h1, h2, rfl⟩ := primV_cplx hv
  refine .val fun E a hr hH => ?_
  have e1 := hr.at_ (x := x) (by simp [ho, Op.operands, Call.operands]) hx
  have e2 := hr.at_ (x := y) (by simp [ho, Op.operands, Call.operands]) hy
  rw [h1] at e1
  rw [h2] at e2
  have e1 := e1.val_inv
  have e2 := e2.val_inv
  refine ⟨.complex .f64 b c, ?_, .val _⟩
  rw [call_builtin _ _ _ _ _ ho]
  simp [builtin, e1, e2, run_complex]
theorem primV_cadd {a b v : AV} (h : primV .cadd [a, b] = some v) : ∃ x y z w re im, a = .val (.complex .f64 x y) ∧ b = .val (.complex .f64 z w) ∧ cSumBits .add .f64 x y z w = some (re, im) ∧ v = .val (.complex .f64 re im) := by
  unfold primV at h
  split at h <;> first | (simp at *; done) | skip
  rename_i x y z w _ heq
  simp at heq
  obtain ⟨rfl, rfl⟩ := heq
  rw [fA_eq] at h
  simp only [Option.map_eq_some_iff] at h
  obtain ⟨⟨re, im⟩, h1, rfl⟩ := h
  exact ⟨x, y, z, w, re, im, rfl, rfl, h1, rfl⟩
theorem ok_cadd {t u : TypeId} {x y : Operand} {x' y' : Opd} {v : AV} (ho : o.op = .binOp .add t x y u) (hx : opdOk x x' = true) (hy : opdOk y y' = true) (hv : primV .cadd ([x', y'].map r) = some v) : OpOk P o r H (Is v H) := by
  obtain ⟨a, b, c, d, re, im, h1, h2, hre, rfl⟩ := primV_cadd hv
  refine .val fun E a' hr hH => ?_
  have e1 := hr.at_ (x := x) (by simp [ho, Op.operands]) hx
  have e2 := hr.at_ (x := y) (by simp [ho, Op.operands]) hy
  rw [h1] at e1
  rw [h2] at e2
  have e1 := e1.val_inv
  have e2 := e2.val_inv
  exact ⟨.complex .f64 re im, by simp [execOp, ho, e1, e2, eqGuard_add, run_complex_sum _ .add (by simp) t .f64 a b c d re im hre], .val _⟩
theorem primV_csub {a b v : AV} (h : primV .csub [a, b] = some v) : ∃ x y z w re im, a = .val (.complex .f64 x y) ∧ b = .val (.complex .f64 z w) ∧ cSumBits .sub .f64 x y z w = some (re, im) ∧ v = .val (.complex .f64 re im) := by
  unfold primV at h
  split at h <;> first | (simp at *; done) | skip
  rename_i x y z w _ heq
  simp at heq
  obtain ⟨rfl, rfl⟩ := heq
  rw [fS_eq] at h
  simp only [Option.map_eq_some_iff] at h
  obtain ⟨⟨re, im⟩, h1, rfl⟩ := h
  exact ⟨x, y, z, w, re, im, rfl, rfl, h1, rfl⟩
theorem ok_csub {t u : TypeId} {x y : Operand} {x' y' : Opd} {v : AV} (ho : o.op = .binOp .sub t x y u) (hx : opdOk x x' = true) (hy : opdOk y y' = true) (hv : primV .csub ([x', y'].map r) = some v) : OpOk P o r H (Is v H) := by
  obtain ⟨a, b, c, d, re, im, h1, h2, hre, rfl⟩ := primV_csub hv
  refine .val fun E a' hr hH => ?_
  have e1 := hr.at_ (x := x) (by simp [ho, Op.operands]) hx
  have e2 := hr.at_ (x := y) (by simp [ho, Op.operands]) hy
  rw [h1] at e1
  rw [h2] at e2
  have e1 := e1.val_inv
  have e2 := e2.val_inv
  exact ⟨.complex .f64 re im, by simp [execOp, ho, e1, e2, eqGuard_sub, run_complex_sum _ .sub (by simp) t .f64 a b c d re im hre], .val _⟩
theorem primV_cmul {a b v : AV} (h : primV .cmul [a, b] = some v) : ∃ x y z w re im, a = .val (.complex .f64 x y) ∧ b = .val (.complex .f64 z w) ∧ cMulBits x y z w = some (re, im) ∧ v = .val (.complex .f64 re im) := by
  unfold primV at h
  split at h <;> first | (simp at *; done) | skip
  rename_i x y z w _ heq
  simp at heq
  obtain ⟨rfl, rfl⟩ := heq
  rw [fM_eq] at h
  simp only [Option.map_eq_some_iff] at h
  obtain ⟨⟨re, im⟩, h1, rfl⟩ := h
  exact ⟨x, y, z, w, re, im, rfl, rfl, h1, rfl⟩
theorem ok_cmul {t u : TypeId} {x y : Operand} {x' y' : Opd} {v : AV} (ho : o.op = .binOp .mul t x y u) (hx : opdOk x x' = true) (hy : opdOk y y' = true) (hv : primV .cmul ([x', y'].map r) = some v) : OpOk P o r H (Is v H) := by
  obtain ⟨a, b, c, d, re, im, h1, h2, hre, rfl⟩ := primV_cmul hv
  refine .val fun E a' hr hH => ?_
  have e1 := hr.at_ (x := x) (by simp [ho, Op.operands]) hx
  have e2 := hr.at_ (x := y) (by simp [ho, Op.operands]) hy
  rw [h1] at e1
  rw [h2] at e2
  have e1 := e1.val_inv
  have e2 := e2.val_inv
  exact ⟨.complex .f64 re im, by simp [execOp, ho, e1, e2, eqGuard_mul, run_complex_mul _ t a b c d re im hre], .val _⟩

theorem dop_sound {io : IOp} (hok : okOp P o io = true) (h : dop P io r H k) : ∃ x H', OpOk P o r H (Is x H') ∧ k x H' := by
  cases io <;> simp only [okOp] at hok
  case mv y =>
    split at hok <;> first | (cases hok; done) | skip
    · rename_i x ho; exact ⟨_, _, ok_mv (.inl ho) hok, h⟩
    · rename_i x ho; exact ⟨_, _, ok_mv (.inr ho) hok, h⟩
  case pick c' x' y' =>
    split at hok
    · rename_i c x y ho
      simp only [Bool.and_eq_true] at hok
      simp only [dop] at h
      split at h
      · rename_i b hb
        exact ⟨_, _, ok_pick ho hok.1.1 hok.1.2 hok.2 hb h.1 h.2.1, h.2.2⟩
      · exact h.elim
    · cases hok
  case alloc z =>
    split at hok
    · rename_i t ho; exact ⟨_, _, ok_alloc ho hok, h⟩
    · cases hok
  case box y =>
    split at hok
    · rename_i t x ho; exact ⟨_, _, ok_box ho hok h.1, h.2⟩
    · cases hok
  case build z qs =>
    split at hok
    · rename_i t ps ho
      simp only [dop, fill1_iff] at h
      exact ⟨_, _, ok_build ho hok h.1, h.2⟩
    · cases hok
  case rowOwn sz qs =>
    split at hok
    · rename_i t n ps ho; exact ⟨_, _, ok_rowOwn ho hok h.1, h.2⟩
    · cases hok
  case rowView sz qs =>
    split at hok
    · rename_i t n ps ho; exact ⟨_, _, ok_rowView ho hok h.1, h.2⟩
    · cases hok
  case ld g dd y =>
    split at hok
    · rename_i t x ho
      simp only [Bool.and_eq_true] at hok
      simp only [dop] at h
      split at h
      · rename_i id i off hy
        split at h
        · rename_i sz rs hid
          split at h
          · rename_i row hi
            obtain ⟨z, hz, hk⟩ := rd_iff.1 h
            exact ⟨_, _, ok_ld_ptr ho hok.2 hok.1 hy hid hi hz, hk⟩
          · exact h.elim
        · exact h.elim
      · rename_i row off hy
        obtain ⟨z, hz, hk⟩ := rd_iff.1 h
        exact ⟨_, _, ok_ld_vp ho hok.2 hok.1 hy hz, hk⟩
      · exact h.elim
    · cases hok
  case st n y u =>
    split at hok
    · rename_i t x v ho
      simp only [Bool.and_eq_true] at hok
      simp only [dop] at h
      split at h
      · rename_i id i off hy
        split at h
        · rename_i sz rs hid
          split at h
          · rename_i row hi
            exact ⟨_, _, ok_st ho hok.1.2 hok.2 hok.1.1 hy hid hi h.1 h.2.1 h.2.2.1, h.2.2.2⟩
          · exact h.elim
        · exact h.elim
      · exact h.elim
    · cases hok
  case nilc y =>
    split at hok
    · rename_i x ho
      simp only [dop] at h
      split at h
      · rename_i id i off hy; obtain ⟨⟨ob, h1, h2⟩, h3⟩ := h; exact ⟨_, _, ok_nilc_ptr ho hok hy h1 h2, h3⟩
      · rename_i row off hy; exact ⟨_, _, ok_nilc_vp ho hok hy, h⟩
      · rename_i f a b hy; exact ⟨_, _, ok_nilc_fn ho hok hy, h⟩
      · exact h.elim
    · cases hok
  case fa off y =>
    split at hok
    · rename_i s x f ho
      simp only [Bool.and_eq_true] at hok
      simp only [dop] at h
      split at h
      · rename_i id i off hy; obtain ⟨⟨ob, h1, h2⟩, h3⟩ := h; exact ⟨_, _, ok_fa_ptr ho hok.2 hok.1 hy h1 h2, h3⟩
      · rename_i row off hy; exact ⟨_, _, ok_fa_vp ho hok.2 hok.1 hy, h⟩
      · exact h.elim
    · cases hok
  case fld g off y =>
    split at hok
    · rename_i s x f ho
      simp only [Bool.and_eq_true] at hok
      simp only [dop] at h
      split at h
      · rename_i cs hy
        obtain ⟨z, hz, hk⟩ := rd_iff.1 h
        exact ⟨_, _, ok_fld ho hok.2 hok.1 hy hz, hk⟩
      · exact h.elim
    · cases hok
  case ia sz dd y j =>
    split at hok
    · rename_i t x i ho
      simp only [Bool.and_eq_true] at hok
      simp only [dop] at h
      split at h
      · rename_i id r0 len q n hy hj
        split at h
        · rename_i sz' rs hid
          obtain ⟨rfl, h0, h1, h2⟩ := h
          exact ⟨_, _, ok_ia_sl ho hok.1.2 hok.2 hok.1.1 hy hj hid h0 h1, h2⟩
        · exact h.elim
      · rename_i es q n hy hj
        obtain ⟨h0, h⟩ := h
        split at h
        · rename_i row hrow; exact ⟨_, _, ok_ia_view ho hok.1.2 hok.2 hok.1.1 hy hj h0 hrow h.1, h.2⟩
        · exact h.elim
      · exact h.elim
    · cases hok
  case iaa len sz y j =>
    split at hok
    · rename_i t x i ho
      simp only [Bool.and_eq_true] at hok
      simp only [dop] at h
      split at h
      · rename_i id r0 off q n hy hj
        obtain ⟨⟨ob, h1, h2⟩, h3, h4, h5⟩ := h
        exact ⟨_, _, ok_iaa_ptr ho hok.1.2 hok.2 hok.1.1 hy hj h1 h2 h3 h4, h5⟩
      · rename_i row off q n hy hj
        exact ⟨_, _, ok_iaa_vp ho hok.1.2 hok.2 hok.1.1 hy hj h.1 h.2.1, h.2.2⟩
      · exact h.elim
    · cases hok
  case bin op' x' y' =>
    split at hok
    · rename_i op t x y u ho
      simp only [Bool.and_eq_true, decide_eq_true_eq] at hok
      obtain ⟨⟨rfl, h1⟩, h2⟩ := hok
      simp only [dop] at h
      obtain ⟨z, h3, h4⟩ := ok_bin (P := P) (H := H) ho h1 h2 h
      exact ⟨z, H, h3, h4⟩
    · cases hok
  case binw op' x' y' =>
    split at hok
    · rename_i op t x y u ho
      simp only [Bool.and_eq_true, decide_eq_true_eq] at hok
      obtain ⟨⟨rfl, h1⟩, h2⟩ := hok
      simp only [dop] at h
      obtain ⟨z, h3, h4⟩ := ok_binw (P := P) (H := H) ho h1 h2 h
      exact ⟨z, H, h3, h4⟩
    · cases hok
  case eqb neg x' y' =>
    split at hok
    · rename_i op t x y u ho
      simp only [Bool.and_eq_true] at hok
      obtain ⟨⟨⟨h1, h2⟩, h3⟩, h4⟩ := hok
      have := isEq_spec h1
      subst this
      split at h2
      · rename_i hu
        simp only [dop] at h
        split at h
        · rename_i p q hp hq; exact ⟨_, _, ok_eqb ho hu h3 h4 hp hq, h⟩
        · exact h.elim
      · cases h2
    · cases hok
  case eqc neg ks x' y' =>
    split at hok
    · rename_i op t x y u ho
      simp only [Bool.and_eq_true] at hok
      obtain ⟨⟨⟨h1, h2⟩, h3⟩, h4⟩ := hok
      have := isEq_spec h1
      subst this
      simp only [dop] at h
      split at h
      · rename_i a b ha hb
        obtain ⟨z, h5, h6⟩ := ok_eqc (P := P) (H := H) ho h2 h3 h4 ha hb h
        exact ⟨_, _, h5, h6⟩
      · exact h.elim
    · cases hok
  case eqnil neg kd x' =>
    split at hok
    · rename_i op t x y u ho
      simp only [Bool.and_eq_true] at hok
      obtain ⟨⟨⟨h1, h2⟩, h3⟩, h4⟩ := hok
      have := isEq_spec h1
      subst this
      have key : ∀ b, NilV H kd (r x') b → k (.bool (if neg then !b else b)) H → ∃ x H', OpOk P o r H (Is x H') ∧ k x H' := fun b hb hk => ⟨_, _, ok_eqnil ho h2 h3 h4 hb, hk⟩
      have kt : k (.bool (!neg)) H → k (.bool (if neg then !true else true)) H := fun h => by cases neg <;> exact h
      have kf : k (.bool neg) H → k (.bool (if neg then !false else false)) H := fun h => by cases neg <;> exact h
      simp only [dop] at h
      split at h
      · rename_i e; exact key true (by rw [e]; exact .nilp) (kt h)
      · rename_i e; exact key true (by rw [e]; exact .nils) (kt h)
      · rename_i e; exact key true (by rw [e]; exact .nilm) (kt h)
      · rename_i e; exact key true (by rw [e]; exact .nilf) (kt h)
      · rename_i e; obtain ⟨⟨ob, h5, h6⟩, h7⟩ := h; exact key false (by rw [e]; exact .ptr h5 h6) (kf h7)
      · rename_i e; obtain ⟨⟨ob, h5, h6⟩, h7⟩ := h; exact key false (by rw [e]; exact .sl h5 h6) (kf h7)
      · rename_i e; obtain ⟨⟨ob, h5, h6⟩, h7⟩ := h; exact key false (by rw [e]; exact .map h5 h6) (kf h7)
      · rename_i e; exact key false (by rw [e]; exact .vp) (kf h)
      · rename_i e; exact key false (by rw [e]; exact .fn) (kf h)
      · rename_i e; exact key false (by rw [e]; exact .view h.1) (kf h.2)
      · exact h.elim
    · cases hok
  case not y =>
    split at hok
    · rename_i t x ho
      simp only [dop] at h
      split at h
      · rename_i b hy; exact ⟨_, _, ok_not ho hok hy, h⟩
      · exact h.elim
    · cases hok
  case neg y =>
    split at hok
    · rename_i t x ho
      simp only [dop] at h
      split at h
      · rename_i a m hy; exact ⟨_, _, ok_neg ho hok hy h.1, h.2⟩
      · exact h.elim
    · cases hok
  case cvi a y =>
    split at hok
    · rename_i src dst x ho
      simp only [Bool.and_eq_true] at hok
      simp only [dop] at h
      split at h
      · rename_i j m hy
        have hc := ok_cv (P := P) (H := H) ho hok.1.1 hok.1.2 hok.2 hy
        rw [show a.wrap m = m from h.1] at hc
        exact ⟨_, _, hc, h.2⟩
      · exact h.elim
    · cases hok
  case cvw a y =>
    split at hok
    · rename_i src dst x ho
      simp only [Bool.and_eq_true] at hok
      simp only [dop] at h
      split at h
      · rename_i j m hy; exact ⟨_, _, ok_cv ho hok.1.1 hok.1.2 hok.2 hy, h⟩
      · exact h.elim
    · cases hok
  case ext i y =>
    split at hok
    · rename_i x j ho
      simp only [Bool.and_eq_true, beq_iff_eq] at hok
      obtain ⟨rfl, hx⟩ := hok
      simp only [dop] at h
      split at h
      · rename_i vs hy
        split at h
        · rename_i v hv; exact ⟨_, _, ok_ext ho hx hy hv, h⟩
        · exact h.elim
      · exact h.elim
    · cases hok
  case mkfn f fs cs =>
    split at hok
    · rename_i g first caps ho
      simp only [Bool.and_eq_true, beq_iff_eq] at hok
      obtain ⟨⟨rfl, h1⟩, h2⟩ := hok
      exact ⟨_, _, ok_mkfn ho h1 h2, h⟩
    · cases hok
  case call f' as =>
    split at hok
    · rename_i f args ts ho
      simp only [Bool.and_eq_true] at hok
      simp only [dop] at h
      split at h
      · rename_i g caps free hf
        obtain ⟨x, H', h1, h2⟩ := h
        exact ⟨x, H', ok_call ho hok.1 hok.2 hf h1, h2⟩
      · exact h.elim
    · cases hok
  case app sz d' s' =>
    split at hok
    · rename_i args ts ho
      split at hok
      · rename_i d s hds
        have := arr2 hds
        subst this
        simp only [Bool.and_eq_true] at hok
        obtain ⟨⟨h1, h2⟩, h3⟩ := hok
        simp only [dop] at h
        obtain ⟨rows, h4, h5⟩ := srcRows_some h
        obtain ⟨h6, h7⟩ := h4
        split at h7
        · rename_i hd; exact ⟨_, _, ok_app_nils ho h1 h2 h3 hd h5 h6 h7.1, h7.2⟩
        · rename_i id r0 len hd
          split at h7
          · rename_i sz' rs hid
            obtain ⟨rfl, h8, h9, h10⟩ := h7
            exact ⟨_, _, ok_app_sl ho h1 h2 h3 hd hid h8 h5 h6 h9, h10⟩
          · exact h7.elim
        · rename_i es hd; exact ⟨_, _, ok_app_cv ho h1 h2 h3 hd h5 h6 h7.2.1 h7.1 h7.2.2.1, h7.2.2.2⟩
        · exact h7.elim
      · cases hok
    · cases hok
  case mkslice sz z l' c' =>
    split at hok
    · rename_i t l c ho
      simp only [Bool.and_eq_true] at hok
      simp only [dop] at h
      split at h
      · rename_i j m j' n hl hc; exact ⟨_, _, ok_mkslice ho hok.1.2 hok.2 hok.1.1 hl hc h.1 h.2.1 h.2.2.1, h.2.2.2⟩
      · exact h.elim
    · cases hok
  case slc sz y lo' hi' =>
    split at hok
    · rename_i t x lo hi ho
      simp only [Bool.and_eq_true] at hok
      obtain ⟨⟨⟨⟨h1, h2⟩, h3⟩, h4⟩, h5⟩ := hok
      simp only [dop] at h
      have lo_ : ∀ j m, 0 ≤ m → loAV r lo' = .int j m → bndIs r lo' 0 m.toNat := fun j m h0 e => by
        cases lo' with
        | none => simp [loAV] at e; exact .inl ⟨rfl, by omega⟩
        | some l => exact .inr ⟨l, j, rfl, by rw [Int.toNat_of_nonneg h0]; exact e⟩
      split at h
      · rename_i j m hy hl
        obtain ⟨rfl, h6, h7⟩ := h
        refine ⟨_, _, ok_slc_nil ho h3 h4 h5 h1 hy (lo_ j 0 (Int.le_refl _) hl) ?_, h7⟩
        cases hi' with
        | none => exact .inl ⟨rfl, rfl⟩
        | some hh =>
          simp only at h6
          split at h6
          · rename_i q n hn; subst h6; exact .inr ⟨hh, q, rfl, hn⟩
          · exact h6.elim
      · rename_i es j m hy hl
        obtain ⟨h6, h⟩ := h
        have hsz : ∀ e z, P.underlying t = some (.slice e) → sizeIs P e z = true → ∀ y ∈ es, y.length = z := fun e z he hz y hy => by
          obtain ⟨e', he', hs'⟩ := sliceIs_run h2
          rw [he] at he'
          cases he'
          obtain ⟨i, hi1, hi2⟩ := sizeIs_run hz
          obtain ⟨i', hi1', hi2'⟩ := sizeIs_run hs'
          rw [hi1] at hi1'
          cases hi1'
          rw [h6 y hy]
          omega
        split at h
        · obtain ⟨h7, h8, h9⟩ := h
          refine ⟨_, _, ok_slc_view (m := m.toNat) (n := es.length) ho h3 h4 h5 h1 hsz hy (lo_ j m h7 hl) (.inl ⟨rfl, rfl⟩) (by omega) (Nat.le_refl _), ?_⟩
          rwa [List.take_of_length_le (by simp)]
        · rename_i hh
          split at h
          · rename_i q n hn
            obtain ⟨h7, h8, h9, h10⟩ := h
            exact ⟨_, _, ok_slc_view (m := m.toNat) (n := n.toNat) ho h3 h4 h5 h1 hsz hy (lo_ j m h7 hl) (.inr ⟨hh, q, rfl, by rw [Int.toNat_of_nonneg (by omega)]; exact hn⟩) (by omega) (by omega), h10⟩
          · exact h.elim
      · rename_i id r0 len j m hy hl
        split at h
        · rename_i sz' rs hid
          split at h
          · obtain ⟨rfl, h7, h8, h10⟩ := h
            exact ⟨_, _, ok_slc_sl (m := m.toNat) (n := len) ho h3 h4 h5 h1 h2 hy hid (lo_ j m h7 hl) (.inl ⟨rfl, rfl⟩) (by omega) (Nat.le_refl _), h10⟩
          · rename_i hh
            split at h
            · rename_i q n hn
              obtain ⟨rfl, h7, h8, h9, h11⟩ := h
              exact ⟨_, _, ok_slc_sl (m := m.toNat) (n := n.toNat) ho h3 h4 h5 h1 h2 hy hid (lo_ j m h7 hl) (.inr ⟨hh, q, rfl, by rw [Int.toNat_of_nonneg (by omega)]; exact hn⟩) (by omega) (by omega), h11⟩
            · exact h.elim
        · exact h.elim
      · exact h.elim
    · cases hok
  case slc3 sz y hi' mx' =>
    split at hok
    · rename_i t x hi mx ho
      simp only [Bool.and_eq_true] at hok
      obtain ⟨⟨⟨⟨h1, h2⟩, h3⟩, h4⟩, h5⟩ := hok
      simp only [dop] at h
      split at h
      · rename_i k1 m k2 n hh hm
        obtain ⟨rfl, h0, h⟩ := h
        have em : m = (m.toNat : Int) := by omega
        split at h
        · rename_i hy
          obtain ⟨rfl, h⟩ := h
          exact ⟨_, _, ok_slc3_nil ho h3 h4 h5 h1 hy hh hm, h⟩
        · rename_i es hy
          obtain ⟨h6, h7, h⟩ := h
          exact ⟨_, _, ok_slc3_view (n := m.toNat) ho h3 h4 h5 h1 (.inl hy) (by rw [← em]; exact hh) (by rw [← em]; exact hm) (by omega), h⟩
        · rename_i es hy
          obtain ⟨h6, h7, h⟩ := h
          exact ⟨_, _, ok_slc3_view (n := m.toNat) ho h3 h4 h5 h1 (.inr hy) (by rw [← em]; exact hh) (by rw [← em]; exact hm) (by omega), h⟩
        · rename_i id r0 len hy
          split at h
          · rename_i sz' rs hid
            obtain ⟨rfl, h7, h⟩ := h
            exact ⟨_, _, ok_slc3_sl (n := m.toNat) ho h3 h4 h5 h1 hy hid (by rw [← em]; exact hh) (by rw [← em]; exact hm) (by omega), h⟩
          · exact h.elim
        · exact h.elim
      · exact h.elim
    · cases hok
  case clr sz z y =>
    split at hok
    · rename_i args ts ho
      split at hok
      · rename_i x hx
        have := arr1 hx
        subst this
        simp only [Bool.and_eq_true] at hok
        simp only [dop] at h
        split at h
        · rename_i hy; exact ⟨_, _, ok_clr0 ho hok.1 hok.2 (.inl hy), h⟩
        · rename_i es hy
          obtain ⟨rfl, h⟩ := h
          exact ⟨_, _, ok_clr0 ho hok.1 hok.2 (.inr hy), h⟩
        · rename_i id r0 len hy
          split at h
          · rename_i sz' rs hid
            obtain ⟨rfl, h7, h8, h⟩ := h
            exact ⟨_, _, ok_clr_sl ho hok.1 hok.2 hy hid h7 h8, h⟩
          · exact h.elim
        · exact h.elim
      · cases hok
    · cases hok
  case strb y =>
    split at hok
    · rename_i src dst x ho
      simp only [Bool.and_eq_true] at hok
      simp only [dop] at h
      obtain ⟨rows, h4, h5⟩ := srcRows_some h
      exact ⟨_, _, ok_strb ho hok.2 hok.1 h5 h4.1, h4.2⟩
    · cases hok
  case eqs neg x' y' =>
    split at hok
    · rename_i op t x y u ho
      simp only [Bool.and_eq_true] at hok
      obtain ⟨⟨h1, h2⟩, h3⟩ := hok
      have := isEq_spec h1
      subst this
      simp only [dop] at h
      split at h
      · rename_i s t' h4 h5
        exact ⟨_, _, ok_eqs ho h2 h3 h4 h5, h⟩
      · exact h.elim
    · cases hok
  case len y =>
    split at hok
    · rename_i args ts ho
      split at hok
      · rename_i x t hx ht
        have := arr1 hx
        subst this
        have := arr1 ht
        subst this
        simp only [Bool.and_eq_true] at hok
        obtain ⟨h1, h2⟩ := hok
        split at h2
        · rename_i e hu
          have hsl : ∃ sz, sliceIs P t sz = true := by
            obtain ⟨i, hi⟩ := Option.isSome_iff_exists.1 h2
            exact ⟨i.size, by simp [sliceIs, hu, sizeIs, hi]⟩
          simp only [dop] at h
          split at h
          · rename_i hy; exact ⟨.int .i64 (0 : Nat), H, ok_len ho h1 (.inl ⟨.inr hsl, .inl ⟨hy, rfl⟩⟩), by simpa using h⟩
          · rename_i es hy; exact ⟨_, H, ok_len ho h1 (.inl ⟨.inr hsl, .inr (.inl ⟨es, .inl hy, rfl⟩)⟩), h⟩
          · rename_i es hy; exact ⟨_, H, ok_len ho h1 (.inl ⟨.inr hsl, .inr (.inl ⟨es, .inr hy, rfl⟩)⟩), h⟩
          · rename_i id i len hy; obtain ⟨⟨ob, h3, h4⟩, h5⟩ := h; exact ⟨_, H, ok_len ho h1 (.inl ⟨.inr hsl, .inr (.inr ⟨id, i, ob, hy, h3, h4⟩)⟩), h5⟩
          · exact h.elim
        · cases h2
      · cases hok
    · cases hok
  case lenm y =>
    split at hok
    · rename_i args ts ho
      split at hok
      · rename_i x t hx ht
        have := arr1 hx
        subst this
        have := arr1 ht
        subst this
        simp only [Bool.and_eq_true] at hok
        simp only [dop] at h
        split at h
        · rename_i hy; exact ⟨_, H, ok_lenm (es := []) ho hok.1 hok.2 (.inl ⟨hy, rfl⟩), by simpa using h⟩
        · rename_i id hy
          split at h
          · rename_i es hid; exact ⟨_, H, ok_lenm ho hok.1 hok.2 (.inr ⟨id, hy, hid⟩), h⟩
          · exact h.elim
        · exact h.elim
      · cases hok
    · cases hok
  case mkmap =>
    split at hok
    · rename_i t ho; exact ⟨_, _, ok_mkmap ho, h⟩
    · cases hok
  case look z ok y j =>
    split at hok
    · rename_i t x i ok' ho
      simp only [Bool.and_eq_true, beq_iff_eq] at hok
      obtain ⟨⟨⟨⟨rfl, h1⟩, h2⟩, h3⟩, h4⟩ := hok
      split at h2
      · rename_i kk e hu
        have hz : ∀ k e, P.underlying t = some (.map k e) → zero1Is P e z = true := fun k' e' he => by rw [hu] at he; cases he; exact h2
        simp only [dop] at h
        split at h
        · rename_i n hj
          split at h
          · rename_i hy; exact ⟨_, _, ok_look ho h3 h4 h1 hz hj (.inl ⟨hy, rfl⟩), h⟩
          · rename_i id hy
            split at h
            · rename_i es hid
              refine ⟨_, _, ok_look ho h3 h4 h1 hz hj (.inr ⟨id, hy, hid⟩), ?_⟩
              cases hl : alook es n with
              | none => exact h.2 hl
              | some v => exact h.1 v hl
            · exact h.elim
          · exact h.elim
        · exact h.elim
      · cases h2
    · cases hok
  case mapup y j u =>
    split at hok
    · rename_i t x i v ho
      simp only [Bool.and_eq_true] at hok
      obtain ⟨⟨⟨h1, h2⟩, h3⟩, h4⟩ := hok
      simp only [dop] at h
      split at h
      · rename_i id n hy hj
        split at h
        · rename_i es hid; exact ⟨_, _, ok_mapup ho h2 h3 h4 h1 hj hy hid, h⟩
        · exact h.elim
      · exact h.elim
    · cases hok
  case del y j =>
    split at hok
    · rename_i args ts ho
      split at hok
      · rename_i x i t ts' hx ht
        have := arr2 hx
        subst this
        simp only [Bool.and_eq_true] at hok
        obtain ⟨⟨h1, h2⟩, h3⟩ := hok
        simp only [dop] at h
        split at h
        · rename_i id n hy hj
          split at h
          · rename_i es hid; exact ⟨_, _, ok_del ho (by rw [← Array.getElem?_toList, ht]; rfl) h1 h2 h3 hj hy hid, h⟩
          · exact h.elim
        · exact h.elim
      · cases hok
    · cases hok
  case mn ys =>
    split at hok
    · rename_i args ts ho
      split at hok
      · rename_i x y x' y' hx
        have := arr2 hx
        subst this
        simp only [Bool.and_eq_true] at hok
        simp only [dop, List.map_cons, List.map_nil] at h
        split at h
        · rename_i a m b n heq
          simp only [List.cons.injEq, and_true] at heq
          obtain ⟨rfl, h⟩ := h
          exact ⟨_, _, ok_mn ho hok.1 hok.2 heq.1 heq.2, h⟩
        · exact h.elim
      · cases hok
    · cases hok
  case mx ys =>
    split at hok
    · rename_i args ts ho
      split at hok
      · rename_i x y x' y' hx
        have := arr2 hx
        subst this
        simp only [Bool.and_eq_true] at hok
        simp only [dop, List.map_cons, List.map_nil] at h
        split at h
        · rename_i a m b n heq
          simp only [List.cons.injEq, and_true] at heq
          obtain ⟨rfl, h⟩ := h
          exact ⟨_, _, ok_mx ho hok.1 hok.2 heq.1 heq.2, h⟩
        · exact h.elim
      · cases hok
    · cases hok
  case prim p ys =>
    simp only [dop] at h
    split at h
    · rename_i v hv
      refine ⟨_, _, ?_, h⟩
      replace hok : primOk P o p ys = true := hok
      cases p
      case i2f =>
        simp only [primOk] at hok
        split at hok
        · rename_i src dst x ho
          split at hok
          · rename_i x'
            simp only [Bool.and_eq_true] at hok
            obtain ⟨⟨h1, h2⟩, h3⟩ := hok
            simp only [List.map_cons, List.map_nil] at hv
            cases hx : r x' <;> rw [hx] at hv <;> first | (cases hv; done) | skip
            obtain rfl : _ = v := Option.some.inj hv
            rw [fI_eq]
            exact ok_i2f ho h1 (fltIs_spec h2) h3 hx
          · cases hok
        · cases hok
      case f2i =>
        simp only [primOk] at hok
        split at hok
        · rename_i src dst x ho
          split at hok
          · rename_i x'
            simp only [Bool.and_eq_true] at hok
            obtain ⟨⟨h1, h2⟩, h3⟩ := hok
            exact ok_f2i ho h1 h2 h3 hv
          · cases hok
        · cases hok
      case cplx =>
        simp only [primOk] at hok
        split at hok
        · rename_i args ts ho
          split at hok
          · rename_i x y x' y' hx
            have := arr2 hx
            subst this
            simp only [Bool.and_eq_true] at hok
            exact ok_cplx ho hok.1 hok.2 hv
          · cases hok
        · cases hok
      case re =>
        simp only [primOk] at hok
        split at hok
        · rename_i args ts ho
          split at hok
          · rename_i x x' hx
            have := arr1 hx
            subst this
            exact ok_re ho hok hv
          · cases hok
        · cases hok
      case im =>
        simp only [primOk] at hok
        split at hok
        · rename_i args ts ho
          split at hok
          · rename_i x x' hx
            have := arr1 hx
            subst this
            exact ok_im ho hok hv
          · cases hok
        · cases hok
      case cadd =>
        simp only [primOk] at hok
        split at hok
        · rename_i t x y u ho
          split at hok
          · rename_i x' y'
            simp only [Bool.and_eq_true] at hok
            exact ok_cadd ho hok.1 hok.2 hv
          · cases hok
        · cases hok
      case csub =>
        simp only [primOk] at hok
        split at hok
        · rename_i t x y u ho
          split at hok
          · rename_i x' y'
            simp only [Bool.and_eq_true] at hok
            exact ok_csub ho hok.1 hok.2 hv
          · cases hok
        · cases hok
      case idx g n sz =>
        simp only [primOk] at hok
        split at hok
        · rename_i t x i ho
          split at hok
          · rename_i x' i'
            simp only [Bool.and_eq_true] at hok
            exact ok_idx ho hok.1.1.1 hok.1.1.2 hok.1.2 hok.2 hv
          · cases hok
        · cases hok
      case cmul =>
        simp only [primOk] at hok
        split at hok
        · rename_i t x y u ho
          split at hok
          · rename_i x' y'
            simp only [Bool.and_eq_true] at hok
            exact ok_cmul ho hok.1 hok.2 hv
          · cases hok
        · cases hok
    · exact h.elim

theorem OpOk.mono {K K' : AV → List AObj → Prop} (h : OpOk P o r H K) (hk : ∀ x h, K x h → K' x h) : OpOk P o r H K' :=
  fun E a next Q hr hH hn => h E a next Q hr hH fun v E' x H' h1 h2 h3 h4 => hn v E' x H' h1 h2 h3 (hk _ _ h4)
theorem dop_ok {io : IOp} (hok : okOp P o io = true) (h : dop P io r H k) : OpOk P o r H k := by
  obtain ⟨x, H', h1, h2⟩ := dop_sound hok h
  exact h1.mono fun y h' ⟨e1, e2⟩ => by rw [e1, e2]; exact h2

end
end Go.Proofs.Ytnjpfoblmomnlaa.Sx
