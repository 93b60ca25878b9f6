/- More operations: slices without room behind, their append, 'clear', bytes as a string, two strings held against each other. No conditions: a kit of our own. -/
import Derived.Test.YtaimhgmakgbfaaaSx12
namespace Go.Proofs.Ytaimhgmakgbfaaa.Sx
open Go Go.RowKit
set_option linter.unusedVariables false
set_option linter.unusedSimpArgs false

section
variable {P : Program} {o : Oper} {r : Opd → AV} {H : List AObj}

theorem VRel.cv_inv {E : Env} {es : List (List AV)} {v : Value} (h : VRel E (.cv es) v) : VRel E (.view es) v ∧ ∃ a, v = .slice a es.length es.length := by
  cases h with
  | cv h hc =>
    obtain ⟨a, n, rfl⟩ := hc
    refine ⟨h, ?_⟩
    cases h with
    | view0 => exact ⟨_, rfl⟩
    | view => exact ⟨_, rfl⟩

/-- An append to a slice without room behind: a new row. -/
theorem ok_app_cv {d s : Operand} {d' s' : Opd} {ts : Array TypeId} {sz : Nat} {es rows : List (List AV)} (ho : o.op = .call { callee := .builtin .append, args := #[d, s], argTypes := ts }) (hd : opdOk d d' = true) (hs : opdOk s s' = true)
    (ht : appIs P ts sz = true) (h1 : r d' = .cv es) (h2 : srcRows H (r s') (fun y => y = rows)) (h3 : ∀ y ∈ rows, y.length = sz) (he3 : ∀ y ∈ es, y.length = sz) (h4 : rows ≠ []) (h5 : es.length + rows.length ≤ mostRows) :
    OpOk P o r H (Is (.sl H.length 0 (es.length + rows.length)) (H ++ [.rows sz (es ++ rows)])) :=
  .go fun E a hr hH => by
    obtain ⟨t, u, e, e', i, z, rfl, he, he', hi, his, hib, hz, hzs, hsz⟩ := appIs_run ht
    have g1 := hr.at_ (x := d) (by simp [ho, Op.operands, Call.operands]) hd
    have g2 := hr.at_ (x := s) (by simp [ho, Op.operands, Call.operands]) hs
    rw [h1] at g1
    obtain ⟨gview, q, gv⟩ := g1.cv_inv
    obtain ⟨news, hsrc, hrows⟩ := src_of hH g2 h2 h3 hsz
    have hpos : 0 < rows.length := List.length_pos_iff.2 h4
    subst his
    rw [gv] at gview
    obtain ⟨olds, osrc, orows⟩ := src_of (P := P) (sz := i.size) (rows := es) hH gview (by simp [srcRows]) he3 hsz
    have hall : ∀ y ∈ es ++ rows, y.length = i.size := fun y hy => by
      rcases List.mem_append.1 hy with hy | hy
      · exact he3 y hy
      · exact h3 y hy
    obtain ⟨c, hc, hrun⟩ := run_append_new (ty := o.type) he he' hi hz E.w osrc.run hsrc (by omega) h5 hib
    have both := orows.append hrows
    have tt : Turned E.w (E.w.drew.alloc (.cells (olds.toArray ++ news.toArray ++ Builtin.zeroCells z.cells (c - (es.length + rows.length))) e)) (fun _ => False) := .push _ rfl rfl rfl rfl
    have hnew : (E.w.drew.alloc (.cells (olds.toArray ++ news.toArray ++ Builtin.zeroCells z.cells (c - (es.length + rows.length))) e)).heap[E.w.heap.size]? = some (.cells (olds.toArray ++ news.toArray ++ Builtin.zeroCells z.cells (c - (es.length + rows.length))) e (0, 0)) := by
      show (E.w.heap.push _)[E.w.heap.size]? = _
      simp
    have hbl := both.len
    have hsize : (olds.toArray ++ news.toArray ++ Builtin.zeroCells z.cells (c - (es.length + rows.length))).size = c * i.size := by
      rw [Array.size_append, zeroCells_size hzs]
      simp only [List.length_append] at hbl
      simp [hbl]
      rw [← Nat.add_mul]; congr 1; omega
    obtain ⟨k1, k2⟩ := hH.bear tt (l := ⟨E.w.heap.size, 0, i.size⟩) (Nat.le_refl _) (by simp) (o := .rows i.size (es ++ rows)) (fun x =>
      rows_cells (e := e) hnew (by rw [hsize, List.length_append]; simp; exact Nat.mul_le_mul_right _ hc) hall (fun k row j hk hj => by
        obtain ⟨v, v1, v3⟩ := both.at_ k row j hk hj
        have hlt := (List.getElem?_eq_some_iff.1 v1).1
        exact ⟨v, by rw [Array.getElem?_append_left (by simpa using hlt)]; simpa using v1, both.one v (List.mem_of_getElem? v1), fun a ha => (v3 a ha).ext (Nat.le_refl _) x⟩))
    refine ⟨.slice (some ⟨E.w.heap.size, 0, none⟩) (es.length + rows.length) c, _, .inl ?_, ?_, k1, k2⟩
    · rw [call_builtin _ _ _ _ _ ho]
      simp only [builtin, List.map_toArray, List.map_cons, List.map_nil, gv, Sem.run_bind, hrun, Result.andThen_ok]
      simp
    · refine .sl (by simp [hH.n]) rfl (fun l hl => ?_)
      simp only [Sx.bear, hH.n, if_true] at hl
      cases hl
      exact ⟨c, 0, by simp, hc, ⟨_, e, (0, 0), hnew, by rw [hsize]; simp⟩, .inl rfl⟩

/-! ### cuts that leave no room -/
theorem run_sliceAt3 {t : TypeId} (ht : cutIs P t = true) (w : World) {a : Option Addr} {len cap : Nat} (n : Nat) {k k' : IntKind} (hn : n ≤ cap) :
    (Instr.sliceAt t (.slice a len cap) none (some (.int k n)) (some (.int k' n))).run P w = .ok (.slice (if n = 0 then a else a.map (·.add 0)) n n) w := by
  unfold cutIs at ht
  split at ht
  · rename_i e he
    obtain ⟨i, hi'⟩ := Option.isSome_iff_exists.1 ht
    have h1 : (0 : Int) ≤ n := by omega
    have h3 : (n : Int) ≤ cap := by omega
    have hb : (Instr.sliceBounds true len cap none (some (.int k n)) (some (.int k' n))).run P w = .ok (0, n, n) w := by
      simp [Instr.sliceBounds, Instr.sliceBound, asIntOf, h1, h3, hn]
    simp [Instr.sliceAt, Instr.slice, run_underlying he, hb, sizeOf, typeInfo, hi']
  · cases ht
theorem add_zero_opt (n : Nat) (b o' : Nat) : (if n = 0 then some (⟨b, o', none⟩ : Addr) else (some (⟨b, o', none⟩ : Addr)).map (·.add 0)) = some ⟨b, o', none⟩ := by
  split <;> simp [add_addr]
theorem ok_slc3_nil {t : TypeId} {x hi mx : Operand} {y hi' mx' : Opd} {k k' : IntKind} (ho : o.op = .slice t x none (some hi) (some mx)) (hx : opdOk x y = true) (hhi : opdOk hi hi' = true) (hmx : opdOk mx mx' = true)
    (ht : cutIs P t = true) (hy : r y = .nils) (h1 : r hi' = .int k 0) (h2 : r mx' = .int k' 0) : OpOk P o r H (Is .nils H) :=
  .val fun E a hr hH => by
    have h := hr.at_ (x := x) (by simp [ho, Op.operands]) hx
    have g1 := hr.at_ (x := hi) (by simp [ho, Op.operands]) hhi
    have g2 := hr.at_ (x := mx) (by simp [ho, Op.operands]) hmx
    rw [hy] at h; rw [h1] at g1; rw [h2] at g2
    have hv : a.eval x = .slice none 0 0 := by generalize a.eval x = v at h; cases h; rfl
    have hrun := run_sliceAt3 (P := P) ht E.w (a := none) (len := 0) (cap := 0) 0 (k := k) (k' := k') (Nat.le_refl _)
    simp only [Int.natCast_zero] at hrun
    refine ⟨_, by simp [execOp, ho, hv, g1.int_inv, g2.int_inv, hrun]; rfl, ?_⟩
    exact .nils
theorem ok_slc3_view {t : TypeId} {x hi mx : Operand} {y hi' mx' : Opd} {es : List (List AV)} {n : Nat} {k k' : IntKind} (ho : o.op = .slice t x none (some hi) (some mx)) (hx : opdOk x y = true) (hhi : opdOk hi hi' = true) (hmx : opdOk mx mx' = true)
    (ht : cutIs P t = true) (hy : r y = .view es ∨ r y = .cv es) (h1 : r hi' = .int k n) (h2 : r mx' = .int k' n) (hn : n ≤ es.length) : OpOk P o r H (Is (.cv (es.take n)) H) :=
  .val fun E a hr hH => by
    have h0 := hr.at_ (x := x) (by simp [ho, Op.operands]) hx
    have h : VRel E (.view es) (a.eval x) := by
      rcases hy with hy | hy <;> rw [hy] at h0
      · exact h0
      · exact h0.cv_inv.1
    have g1 := hr.at_ (x := hi) (by simp [ho, Op.operands]) hhi
    have g2 := hr.at_ (x := mx) (by simp [ho, Op.operands]) hmx
    rw [h1] at g1; rw [h2] at g2
    generalize hv : a.eval x = v at h
    cases h with
    | view0 q cap =>
      have e0 : n = 0 := by simpa using hn
      subst e0
      have hrun := run_sliceAt3 (P := P) ht E.w (a := q) (len := 0) (cap := cap) 0 (k := k) (k' := k') (Nat.zero_le _)
      refine ⟨.slice q 0 0, by simp [execOp, ho, hv, g1.int_inv, g2.int_inv] at hrun ⊢; rw [hrun]; rfl, ?_⟩
      exact .cv (.view0 _ _) ⟨_, _, rfl⟩
    | view c hb hcap hsz' hc h1' h =>
      rename_i b o' cap sz'
      have hrun := run_sliceAt3 (P := P) ht E.w (a := some ⟨b, o', none⟩) (len := es.length) (cap := cap) n (k := k) (k' := k') (by omega)
      rw [add_zero_opt] at hrun
      refine ⟨.slice (some ⟨b, o', none⟩) n n, by simp [execOp, ho, hv, g1.int_inv, g2.int_inv, hrun], .cv ?_ ⟨_, _, rfl⟩⟩
      have hlen : (es.take n).length = n := by simp; omega
      have key : VRel E (.view (es.take n)) (.slice (some ⟨b, o', none⟩) (es.take n).length n) := by
        refine .view (sz := sz') c hb (by omega) (fun i y hy => ?_) (fun i j hi hj => hc i j (by omega) hj) (fun i j hi hj => h1' i j (by omega) hj) (fun i row j a hi hj => ?_)
        · rw [List.getElem?_take] at hy
          split at hy
          · exact hsz' i y hy
          · cases hy
        · rw [List.getElem?_take] at hi
          split at hi
          · exact h i row j a hi hj
          · cases hi
      rwa [hlen] at key
theorem ok_slc3_sl {t : TypeId} {x hi mx : Operand} {y hi' mx' : Opd} {id r0 len sz n : Nat} {rs : List (List AV)} {k k' : IntKind} (ho : o.op = .slice t x none (some hi) (some mx)) (hx : opdOk x y = true) (hhi : opdOk hi hi' = true) (hmx : opdOk mx mx' = true)
    (ht : cutIs P t = true) (hy : r y = .sl id r0 len) (hid : H[id]? = some (.rows sz rs)) (h1 : r hi' = .int k n) (h2 : r mx' = .int k' n) (hn : n ≤ len) : OpOk P o r H (Is (.sl id r0 n) H) :=
  .val fun E a hr hH => by
    have h := hr.at_ (x := x) (by simp [ho, Op.operands]) hx
    have g1 := hr.at_ (x := hi) (by simp [ho, Op.operands]) hhi
    have g2 := hr.at_ (x := mx) (by simp [ho, Op.operands]) hmx
    rw [hy] at h; rw [h1] at g1; rw [h2] at g2
    obtain ⟨l, cap, i', hl, hv, hcap, hroom, hor, hi'⟩ := h.sl_inv hH hid (by simp)
    have hrun := run_sliceAt3 (P := P) ht E.w (a := some ⟨l.b, l.base + i' * l.sz, none⟩) (len := len) (cap := cap) n (k := k) (k' := k') (by omega)
    rw [add_zero_opt] at hrun
    refine ⟨.slice (some ⟨l.b, l.base + i' * l.sz, none⟩) n n, by simp [execOp, ho, hv, g1.int_inv, g2.int_inv, hrun], ?_⟩
    refine .sl (hH.id_lt hl) rfl (fun l' hl' => ?_)
    rw [hl] at hl'; cases hl'
    refine ⟨n, i', rfl, Nat.le_refl _, ?_, by omega⟩
    obtain ⟨cs, e, fr, hb, hm⟩ := hroom
    exact ⟨cs, e, fr, hb, by have := Nat.mul_le_mul_right l.sz (show i' + n ≤ i' + cap by omega); omega⟩

/-! ### strings -/
def bytesIs (P : Program) (src dst : TypeId) : Bool := (match P.underlying src with | some (.slice e) => (match P.underlying e with | some (.int .u8) => sizeIs P e 1 | _ => false) | _ => false) && (match P.underlying dst with | some .string => true | _ => false)
theorem bytesIs_run {src dst : TypeId} (h : bytesIs P src dst = true) : ∃ e, P.underlying src = some (.slice e) ∧ P.underlying e = some (.int .u8) ∧ P.underlying dst = some .string := by
  simp only [bytesIs, Bool.and_eq_true] at h
  obtain ⟨h1, h2⟩ := h
  split at h1
  · rename_i e he
    split at h1
    · rename_i he'
      split at h2
      · rename_i hd; exact ⟨e, he, he', hd⟩
      · cases h2
    · cases h1
  · cases h1
theorem ok_strb {src dst : TypeId} {x : Operand} {y : Opd} {rows : List (List AV)} (ho : o.op = .convert src dst x) (hx : opdOk x y = true) (ht : bytesIs P src dst = true) (h2 : srcRows H (r y) (fun z => z = rows)) (h3 : ∀ z ∈ rows, ∃ n, z = [.int .u8 n]) :
    OpOk P o r H (Is (.str (strOfNums (rows.map fun z => numOfCell z))) H) :=
  .val fun E a hr hH => by
    have h := hr.at_ (x := x) (by simp [ho, Op.operands]) hx
    obtain ⟨e, he, he', hd⟩ := bytesIs_run ht
    obtain ⟨news, hsrc, hrows⟩ := src_of (P := P) (sz := 1) hH h h2 (fun z hz => by obtain ⟨n, rfl⟩ := h3 z hz; rfl) (by omega)
    have hnews : news = (rows.map fun z => numOfCell z).map (Value.int .u8) := by
      apply List.ext_getElem?
      intro k
      have hl := hrows.len
      rw [Nat.mul_one] at hl
      by_cases hk : k < rows.length
      · have hrk : rows[k]? = some rows[k] := List.getElem?_eq_getElem hk
        obtain ⟨v, v1, v2⟩ := hrows.at_ k _ 0 hrk (by omega)
        obtain ⟨n, hn⟩ := h3 _ (List.mem_of_getElem? hrk)
        have := (v2 (.int .u8 n) (by rw [hn]; rfl)).int_inv
        simp only [Nat.mul_one, Nat.add_zero] at v1
        rw [v1, this]
        simp [hk, hn, numOfCell]
      · rw [List.getElem?_eq_none (by omega), List.getElem?_eq_none (by simp; omega)]
    have hrun : (convert src dst (a.eval x)).run P E.w = .ok (.string (strOfNums (rows.map fun z => numOfCell z))) E.w := by
      have hsl : ∃ q n c, a.eval x = .slice q n c := by
        generalize a.eval x = v at h
        generalize hry : r y = w at h h2
        cases w <;> simp only [srcRows] at h2 <;> first | exact h2.elim | skip
        · cases h; exact ⟨_, _, _, rfl⟩
        · rename_i id r0 len
          split at h2
          · rename_i sz' rs hid
            obtain ⟨l, cap, _, hl, rfl, _⟩ := h.sl_inv hH hid (by simp)
            exact ⟨_, _, _, rfl⟩
          · exact h2.elim
        · cases h <;> exact ⟨_, _, _, rfl⟩
        · obtain ⟨_, q, e⟩ := h.cv_inv; exact ⟨_, _, _, e⟩
      obtain ⟨q, n, c, hv⟩ := hsl
      rw [hv] at hsrc ⊢
      have hlen := hsrc.len E.w
      simp [Builtin.lenOf] at hlen
      have hr2 := hsrc.run E.w rfl
      cases q with
      | none =>
        rw [run_convert_bytes_nil E.w src e he he' n c dst hd]
        have hn0 : news = [] := by
          have := hr2
          simp [Builtin.firstCells] at this
          first | exact this | exact this.symm
        rw [hn0] at hnews
        have : (rows.map fun z => numOfCell z) = [] := by simpa using hnews.symm
        rw [this]; rfl
      | some q =>
        rw [run_convert_bytes_string E.w src dst e _ n c he he' hd]
        simp [Builtin.firstCells] at hr2
        rw [run_bytesToString E.w q n c (rows.map fun z => numOfCell z) (by rw [hlen, hr2, hnews]), foldl_push_bytes]
        simp [strOfNums, ByteArray.empty, ByteArray.emptyWithCapacity]
        rfl
    exact ⟨_, by simp [execOp, ho, hrun], .str _⟩
theorem ok_eqs {neg : Bool} {t u : TypeId} {x y : Operand} {x' y' : Opd} {p q : ByteArray} (ho : o.op = .binOp (if neg then .neq else .eql) t x y u) (hx : opdOk x x' = true) (hy : opdOk y y' = true)
    (h1 : r x' = .str p) (h2 : r y' = .str q) : OpOk P o r H (Is (.bool (if neg then !(p.toList == q.toList) else p.toList == q.toList)) H) :=
  .val fun E a hr hH => by
    have e1 := hr.at_ (x := x) (by simp [ho, Op.operands]) hx
    have e2 := hr.at_ (x := y) (by simp [ho, Op.operands]) hy
    rw [h1] at e1
    rw [h2] at e2
    have e1 : a.eval x = .string p := by generalize a.eval x = v at e1; cases e1; rfl
    have e2 : a.eval y = .string q := by generalize a.eval y = v at e2; cases e2; rfl
    cases neg
    · exact ⟨.bool (p.toList == q.toList), by simp at ho; simp [execOp, ho, e1, e2, eqGuard_at_string, binOp_string_eql], .bool _⟩
    · exact ⟨.bool (!(p.toList == q.toList)), by simp at ho; simp [execOp, ho, e1, e2, eqGuard_at_string, binOp_string_neq], .bool _⟩

/-! ### clear -/
def clrIs (P : Program) (ts : Array TypeId) (sz : Nat) (z : List AV) : Bool := match ts.toList with
  | [t] => (match P.underlying t with | some (.slice e) => sizeIs P e sz && zeroIs P e z && decide (0 < sz) | _ => false)
  | _ => false
theorem clrIs_run {ts : Array TypeId} {sz : Nat} {z : List AV} (h : clrIs P ts sz z = true) : ∃ t e, ts = #[t] ∧ P.underlying t = some (.slice e) ∧ sizeIs P e sz = true ∧ zeroIs P e z = true ∧ 0 < sz := by
  unfold clrIs at h
  split at h
  · rename_i t ht
    split at h
    · rename_i e he
      simp only [Bool.and_eq_true, decide_eq_true_eq] at h
      exact ⟨t, e, by cases ts; simp at ht; subst ht; rfl, he, h.1.1, h.1.2, h.2⟩
    · cases h
  · cases h
theorem ok_clr0 {x : Operand} {y : Opd} {ts : Array TypeId} {sz : Nat} {z : List AV} (ho : o.op = .call { callee := .builtin .clear, args := #[x], argTypes := ts }) (hx : opdOk x y = true) (ht : clrIs P ts sz z = true) (hy : r y = .nils ∨ r y = .view []) :
    OpOk P o r H (Is (.tup []) H) :=
  .val fun E a hr hH => by
    have h := hr.at_ (x := x) (by simp [ho, Op.operands, Call.operands]) hx
    obtain ⟨t, e, rfl, he, _, _, _⟩ := clrIs_run ht
    have hv : ∃ q c, a.eval x = .slice q 0 c := by
      rcases hy with hy | hy <;> rw [hy] at h <;> generalize a.eval x = v at h
      · cases h; exact ⟨_, _, rfl⟩
      · cases h <;> exact ⟨_, _, rfl⟩
    obtain ⟨q, c, hv⟩ := hv
    refine ⟨.tuple #[], ?_, .tup (vs := []) rfl fun i a v h => by simp at h⟩
    rw [call_builtin _ _ _ _ _ ho]
    cases q <;> simp [builtin, Builtin.clear_, hv, run_underlying he]
theorem ok_clr_sl {x : Operand} {y : Opd} {ts : Array TypeId} {sz id r0 len : Nat} {z : List AV} {rs : List (List AV)} (ho : o.op = .call { callee := .builtin .clear, args := #[x], argTypes := ts }) (hx : opdOk x y = true) (ht : clrIs P ts sz z = true) (hy : r y = .sl id r0 len)
    (hid : H[id]? = some (.rows sz rs)) (hzl : z.length = sz) (hle : r0 + len ≤ rs.length) : OpOk P o r H (Is (.tup []) (H.set id (.rows sz (rs.take r0 ++ List.replicate len z ++ rs.drop (r0 + len))))) :=
  .go fun E a hr hH => by
    have h := hr.at_ (x := x) (by simp [ho, Op.operands, Call.operands]) hx
    obtain ⟨t, e, rfl, he, hsz, hzi, hpos⟩ := clrIs_run ht
    rw [hy] at h
    obtain ⟨l, cap, i', hl, hv, hcap, hroom, hor, hi'⟩ := h.sl_inv hH hid (by simp)
    by_cases h0 : len = 0
    · subst h0
      have e1 : H.set id (.rows sz (rs.take r0 ++ List.replicate 0 z ++ rs.drop (r0 + 0))) = H := by
        obtain ⟨hi, e⟩ := List.getElem?_eq_some_iff.1 hid
        simp only [List.replicate_zero, List.append_nil, Nat.add_zero, List.take_append_drop]
        rw [← e]; exact List.set_getElem_self hi
      rw [e1]
      refine ⟨.tuple #[], E, .inl ?_, .tup (vs := []) rfl (fun i a v h => by simp at h), hH, Ext.refl (Nat.le_refl _)⟩
      rw [call_builtin _ _ _ _ _ ho]
      simp [builtin, Builtin.clear_, hv, run_underlying he]
    · obtain rfl : r0 = i' := (hi'.resolve_right (by omega)).symm
      obtain ⟨i, zv, hi, hzv, hcr⟩ := zeroIs_run hzi
      have hzs := (hcr E).len
      cases hor with
      | rows cs e0 hs' hb hlen hrr h1' hh =>
        subst hs'
        have hnl : (Builtin.zeroCells zv.cells len).toList.length = len * l.sz := by
          rw [Array.length_toList, size_zeroCells, hzs, hzl]
        have hm1 : r0 * l.sz + len * l.sz ≤ rs.length * l.sz := by rw [← Nat.add_mul]; exact Nat.mul_le_mul_right _ hle
        have hzc : ∀ k, k < len * l.sz → (Builtin.zeroCells zv.cells len).toList[k]? = zv.cells[k % l.sz]? := fun k hk => by
          have hlt : k < (Builtin.zeroCells zv.cells len).toList.length := by rw [hnl]; exact hk
          rw [List.getElem?_eq_getElem hlt]
          have hmod : k % l.sz < zv.cells.size := by rw [hzs, hzl]; exact Nat.mod_lt _ hpos
          rw [Array.getElem?_eq_getElem hmod]
          simp only [Builtin.zeroCells, Array.getElem_toList, Array.getElem_map, Array.getElem_range, hzs, hzl, Option.some.injEq]
          rw [getElem!_pos zv.cells _ hmod]
        generalize hnews : (Builtin.zeroCells zv.cells len).toList = news at *
        have hone : ∀ v ∈ news, v.oneCell' = true := fun v hv => by
          obtain ⟨k, hk⟩ := List.getElem?_of_mem hv
          have hlt := (List.getElem?_eq_some_iff.1 hk).1
          rw [hzc k (by omega)] at hk
          exact (hcr E).one _ v hk
        have hst := run_storeCells_at P l.b (l.base + r0 * l.sz) e0 news 0 cs E.w hb (by omega) hone
        simp only [Nat.add_zero] at hst
        have tt := Turned.row (cs' := (cs.toList.take (l.base + r0 * l.sz) ++ news ++ cs.toList.drop (l.base + r0 * l.sz + news.length)).toArray) hb (by simp; omega)
        obtain ⟨h2, h3⟩ := hH.write hl tt (o := .rows l.sz (rs.take r0 ++ List.replicate len z ++ rs.drop (r0 + len))) (fun x => by
          have hg := splice_get rs r0 (List.replicate len z) (by simpa using hle)
          simp only [List.length_replicate] at hg
          refine .mk (e := e0) rfl (setRow_heap E.w l.b cs _ e0 _ hb) (by simp; rw [show min r0 rs.length + (len + (rs.length - (r0 + len))) = rs.length by omega]; omega) (fun k q hk => ?_) (fun k q j hk hj => ?_)
          · rw [hg] at hk
            split at hk
            · rw [List.getElem?_replicate] at hk
              split at hk
              · cases hk; exact hzl
              · cases hk
            · exact hrr k q hk
          · have hkl : k < rs.length := by have := (List.getElem?_eq_some_iff.1 hk).1; simp at this; omega
            have hmk := (mul_step (sz := l.sz) hkl (Nat.le_refl rs.length)).1
            have hcell : cs[l.base + k * l.sz + j]? = some (cs[l.base + k * l.sz + j]'(by omega)) := Array.getElem?_eq_getElem (by omega)
            have hget := splice_get cs.toList (l.base + r0 * l.sz) news (by simp; omega) (l.base + k * l.sz + j)
            simp only [List.getElem?_toArray]
            rw [hget]
            rw [hg] at hk
            by_cases hin : r0 ≤ k ∧ k < r0 + len
            · rw [if_pos hin] at hk
              rw [List.getElem?_replicate] at hk
              have hrk := Nat.mul_le_mul_right l.sz hin.1
              have hrk2 := (mul_step (sz := l.sz) (show k - r0 < len by omega) (Nat.le_refl len)).1
              have e3 : k * l.sz = r0 * l.sz + (k - r0) * l.sz := by rw [← Nat.add_mul]; congr 1; omega
              split at hk
              · cases hk
                rw [if_pos (by omega), show l.base + k * l.sz + j - (l.base + r0 * l.sz) = (k - r0) * l.sz + j by omega, hzc _ (by omega)]
                rw [show ((k - r0) * l.sz + j) % l.sz = j by rw [Nat.mul_comm, Nat.mul_add_mod, Nat.mod_eq_of_lt hj]]
                obtain ⟨v, v1, v2, v3⟩ := (hcr E).get (j := j) (by omega)
                exact ⟨v, v1, v2, fun a ha => (v3 a ha).ext (Nat.le_refl _) x⟩
              · cases hk
            · rw [if_neg hin] at hk
              have hout : ¬ (l.base + r0 * l.sz ≤ l.base + k * l.sz + j ∧ l.base + k * l.sz + j < l.base + r0 * l.sz + news.length) := by
                rcases Nat.lt_or_ge k r0 with hlt | hge
                · have := (mul_step (sz := l.sz) hlt (Nat.le_refl r0)).1; omega
                · have := Nat.mul_le_mul_right l.sz (show r0 + len ≤ k by omega); rw [Nat.add_mul] at this; omega
              rw [if_neg hout]
              exact ⟨_, (by rw [Array.getElem?_toList]; exact hcell), h1' (k * l.sz + j) _ (by omega) (by rw [← Nat.add_assoc]; exact hcell), fun a ha => (hh k q j a _ hk ha hcell).ext (Nat.le_refl _) x⟩)
        refine ⟨.tuple #[], _, .inl ?_, .tup (vs := []) rfl (fun i a v h => by simp at h), h2, h3⟩
        rw [call_builtin _ _ _ _ _ ho]
        obtain ⟨m, rfl⟩ : ∃ m, len = m + 1 := ⟨len - 1, by omega⟩
        have hz2 : ∀ w, (zeroValue e).run P w = .ok zv w := fun w => by simp [zeroValue, typeInfo, hi, hzv]
        simp [builtin, Builtin.clear_, hv, run_underlying he, hz2, hnews, hst]
end
end Go.Proofs.Ytaimhgmakgbfaaa.Sx
