/- That stores, literals of slices and append do what the small language says. No conditions: a kit of our own. -/
import Derived.Test.YtnjpfoblmomnlaaSx8
namespace Go.Proofs.Ytnjpfoblmomnlaa.Sx
open Go Go.RowKit
set_option linter.unusedVariables false
set_option linter.unusedSimpArgs false

theorem splice_get {α : Type} (row : List α) (off : Nat) (cs : List α) (h : off + cs.length ≤ row.length) (i : Nat) : (row.take off ++ cs ++ row.drop (off + cs.length))[i]? = if off ≤ i ∧ i < off + cs.length then cs[i - off]? else row[i]? := by
  rw [List.append_assoc]
  by_cases h1 : i < off
  · rw [List.getElem?_append_left (by simp; omega), List.getElem?_take, if_pos h1, if_neg (by omega)]
  · rw [List.getElem?_append_right (by simp; omega)]
    simp only [List.length_take, Nat.min_eq_left (show off ≤ row.length by omega)]
    by_cases h2 : i < off + cs.length
    · rw [List.getElem?_append_left (by omega), if_pos (by omega)]
    · rw [List.getElem?_append_right (by omega), List.getElem?_drop, if_neg (by omega)]
      congr 1
      omega

theorem mul_step {i k n sz : Nat} (h : i < k) (hk : k ≤ n) : i * sz + sz ≤ k * sz ∧ k * sz ≤ n * sz := by
  rw [← Nat.succ_mul]
  exact ⟨Nat.mul_le_mul_right _ h, Nat.mul_le_mul_right _ hk⟩

section
variable {P : Program} {o : Oper} {r : Opd → AV} {H : List AObj}

theorem ok_st {t : TypeId} {x v : Operand} {y u : Opd} {n id i off sz : Nat} {rs : List (List AV)} {row : List AV} (ho : o.op = .store t x v) (hx : opdOk x y = true) (hv : opdOk v u = true) (ht : sizeIs P t n = true)
    (hy : r y = .ptr id i off) (hid : H[id]? = some (.rows sz rs)) (hi : rs[i]? = some row) (hn : (cellsL (r u)).length = n) (hp : (cellsL (r u)).all AV.plain = true) (hoff : off + n ≤ row.length) :
    OpOk P o r H (Is .any (H.set id (.rows sz (rs.set i (over row off (cellsL (r u))))))) :=
  .go fun E a hr hH => by
    have h := hr.at_ (x := x) (by simp [ho, Op.operands]) hx
    have h' := (hr.at_ (x := v) (by simp [ho, Op.operands]) hv).cells hp
    rw [hy] at h
    obtain ⟨l, hl, hpv, hor⟩ := h.ptr_inv hH hid (by simp)
    cases hor with
    | rows cs e hs hb hlen hrr h1 hh =>
      have hrow := hrr i row hi
      have hilt := (List.getElem?_eq_some_iff.1 hi).1
      have hm := (mul_step (sz := sz) hilt (Nat.le_refl rs.length)).1
      have hcl := h'.len
      generalize hws : (a.eval v).cells = ws at *
      have hfit : l.base + i * l.sz + off + 0 + ws.toList.length ≤ cs.size := by simp; subst hs; omega
      have hst := run_storeCells_at P l.b (l.base + i * l.sz + off) e ws.toList 0 cs E.w hb (by simpa using hfit) (fun v hv => by
        obtain ⟨j, hj⟩ := List.getElem?_of_mem hv
        exact h'.one j v (by simpa using hj))
      simp only [Nat.add_zero] at hst hfit
      have tt := Turned.row (cs' := (cs.toList.take (l.base + i * l.sz + off) ++ ws.toList ++ cs.toList.drop (l.base + i * l.sz + off + ws.toList.length)).toArray) hb (by simp at hfit ⊢; omega)
      obtain ⟨h2, h3⟩ := hH.write hl tt (o := .rows sz (rs.set i (over row off (cellsL (r u))))) (fun x => by
        refine .mk (e := e) hs (setRow_heap E.w l.b cs _ e _ hb) (by simp at hfit ⊢; omega) (fun k q hk => ?_) (fun k q j hk hj => ?_)
        · by_cases hki : i = k
          · subst hki
            rw [List.getElem?_set_self hilt] at hk
            cases hk
            rw [over_len _ _ _ (by omega)]
            exact hrow
          · rw [List.getElem?_set_ne hki] at hk
            exact hrr k q hk
        · have hkl : k < rs.length := by have := (List.getElem?_eq_some_iff.1 hk).1; simpa using this
          have hmk := (mul_step (sz := sz) hkl (Nat.le_refl rs.length)).1
          have hcell : cs[l.base + k * sz + j]? = some (cs[l.base + k * sz + j]'(by omega)) := Array.getElem?_eq_getElem (by omega)
          have hget := splice_get cs.toList (l.base + i * l.sz + off) ws.toList (by simp at hfit ⊢; omega) (l.base + k * sz + j)
          simp only [List.getElem?_toArray]
          rw [hget]
          by_cases hki : i = k
          · subst hki
            rw [List.getElem?_set_self hilt] at hk
            cases hk
            have hov := over_get row off (cellsL (r u)) (by omega) j
            subst hs
            by_cases hin : off ≤ j ∧ j < off + (cellsL (r u)).length
            · rw [if_pos (by simp; omega), show l.base + i * l.sz + j - (l.base + i * l.sz + off) = j - off by omega]
              obtain ⟨w, hw1, hw2, hw3⟩ := h'.get (j := j - off) (by omega)
              exact ⟨w, by simpa using hw1, hw2, fun a ha => (hw3 a (by rw [hov, if_pos hin] at ha; exact ha)).ext (Nat.le_refl _) x⟩
            · rw [if_neg (by simp; omega)]
              refine ⟨_, (by rw [Array.getElem?_toList]; exact hcell), h1 (i * l.sz + j) _ (by omega) (by rw [← Nat.add_assoc]; exact hcell), fun a ha => ?_⟩
              rw [hov, if_neg hin] at ha
              exact (hh i row j a _ hi ha hcell).ext (Nat.le_refl _) x
          · rw [List.getElem?_set_ne hki] at hk
            have hout : ¬ (l.base + i * l.sz + off ≤ l.base + k * sz + j ∧ l.base + k * sz + j < l.base + i * l.sz + off + ws.toList.length) := by
              subst hs
              have hwl : ws.toList.length = n := by simp; omega
              rcases Nat.lt_or_ge i k with hlt | hge
              · have := (mul_step (sz := l.sz) hlt (Nat.le_refl k)).1; omega
              · have := (mul_step (sz := l.sz) (show k < i by omega) (Nat.le_refl i)).1; omega
            rw [if_neg hout]
            refine ⟨_, (by rw [Array.getElem?_toList]; exact hcell), h1 (k * sz + j) _ (by omega) (by rw [← Nat.add_assoc]; exact hcell), fun a ha => ?_⟩
            exact (hh k q j a _ hk ha hcell).ext (Nat.le_refl _) x)
      refine ⟨undef, _, .inr ⟨?_, rfl⟩, .any _, h2, h3⟩
      have hne : ¬ (ws.size ≠ n) := by omega
      simp [execOp, ho, hpv, Instr.storeAt, Instr.sureAddr, storeVar, run_sizeOf ht, hws, show ws.size = n by omega, hst]

/-! ### literals of slices -/
def rowsIs (P : Program) (t : TypeId) (sz n : Nat) (ps : List (Nat × Operand)) (qs : List Opd) : Bool :=
  (match P.underlying t with
    | some (.slice e) => sizeIs P e sz && (match P.info? e with | some i => (match i.zero with | some v => v.cells.size == sz && v.cells.all Value.oneCell' | none => false) | none => false)
    | _ => false) && rowOk 0 ps qs && n == qs.length && decide (0 < sz) && decide (n * sz ≤ 16777216)

theorem rowOk_len : ∀ {k : Nat} {ps : List (Nat × Operand)} {qs : List Opd}, rowOk k ps qs = true → ps.length = qs.length
  | _, [], [], _ => rfl
  | k, (i, x) :: ps, y :: qs, h => by simp only [rowOk, Bool.and_eq_true] at h; simp [rowOk_len h.2]
  | _, [], _ :: _, h => by simp [rowOk] at h
  | _, (_, _) :: _, [], h => by simp [rowOk] at h
theorem rowOk_at : ∀ {k : Nat} {ps : List (Nat × Operand)} {qs : List Opd}, rowOk k ps qs = true → ∀ (j i : Nat) x y, ps[j]? = some (i, x) → qs[j]? = some y → i = k + j ∧ opdOk x y = true
  | k, (i, x) :: ps, y :: qs, h, 0, i', x', y', h1, h2 => by
    simp only [rowOk, Bool.and_eq_true] at h
    simp at h1 h2
    obtain ⟨rfl, rfl⟩ := h1
    subst h2
    exact ⟨by simpa using h.1.1, h.1.2⟩
  | k, (i, x) :: ps, y :: qs, h, j + 1, i', x', y', h1, h2 => by
    simp only [rowOk, Bool.and_eq_true] at h
    obtain ⟨h3, h4⟩ := rowOk_at h.2 j i' x' y' (by simpa using h1) (by simpa using h2)
    exact ⟨by omega, h4⟩
  | _, [], [], _, j, _, _, _, h1, _ => by simp at h1
  | _, [], _ :: _, h, _, _, _, _, _, _ => by simp [rowOk] at h
  | _, (_, _) :: _, [], h, _, _, _, _, _, _ => by simp [rowOk] at h

/-- What the parts of a row come to, cell by cell. -/
theorem fillv_get (sz : Nat) : ∀ (as : List AV) (k : Nat) (z : List AV), (∀ a ∈ as, (cellsL a).length = sz) → (k + as.length) * sz ≤ z.length → ∀ i j, i < as.length → j < sz →
    (fillv z ((as.zipIdx k).map fun p => (p.2 * sz, sz, p.1)))[(k + i) * sz + j]? = (as[i]?.bind fun a => (cellsL a)[j]?)
  | a :: as, k, z, hs, hl, i, j, hi, hj => by
    have ha := hs a (by simp)
    have hk : k * sz + sz ≤ z.length := by
      have := (mul_step (sz := sz) (show k < k + (a :: as).length by simp) (Nat.le_refl _)).1
      omega
    simp only [List.zipIdx_cons, List.map_cons, fillv]
    have hol := over_len z (k * sz) (cellsL a) (by omega)
    cases i with
    | zero =>
      have keep : ∀ (bs : List AV) (k' : Nat) (z' : List AV) (m : Nat), (∀ a ∈ bs, (cellsL a).length = sz) → (k' + bs.length) * sz ≤ z'.length → m < k' * sz → (fillv z' ((bs.zipIdx k').map fun p => (p.2 * sz, sz, p.1)))[m]? = z'[m]? := by
        intro bs
        induction bs with
        | nil => intro k' z' m _ _ _; rfl
        | cons b bs ih =>
          intro k' z' m hb hl' hm
          have hbl := hb b (by simp)
          have hk' : k' * sz + sz ≤ z'.length := by
            have := (mul_step (sz := sz) (show k' < k' + (b :: bs).length by simp) (Nat.le_refl _)).1
            omega
          simp only [List.zipIdx_cons, List.map_cons, fillv]
          rw [ih (k' + 1) _ m (fun a ha => hb a (by simp [ha])) (by rw [over_len _ _ _ (by omega)]; simpa [Nat.add_comm, Nat.add_left_comm, Nat.add_assoc] using hl') (by rw [Nat.succ_mul]; omega), over_get _ _ _ (by omega), if_neg (by omega)]
      rw [keep as (k + 1) _ _ (fun a ha => hs a (by simp [ha])) (by rw [hol]; simpa [Nat.add_comm, Nat.add_left_comm, Nat.add_assoc] using hl) (by rw [Nat.succ_mul]; simp; omega), over_get _ _ _ (by omega), if_pos (by simp; omega)]
      simp
    | succ i =>
      have ih := fillv_get sz as (k + 1) (over z (k * sz) (cellsL a)) (fun a ha => hs a (by simp [ha])) (by rw [hol]; simpa [Nat.add_comm, Nat.add_left_comm, Nat.add_assoc] using hl) i j (by simpa using hi) hj
      rw [show k + (i + 1) = k + 1 + i by omega, ih]
      simp
  | [], _, _, _, _, i, _, hi, _ => by simp at hi

theorem FillOk.rows (sz : Nat) : ∀ (as : List AV) (k : Nat) (z : List AV), (∀ a ∈ as, (cellsL a).length = sz ∧ (cellsL a).all AV.plain = true) → (k + as.length) * sz ≤ z.length → FillOk z ((as.zipIdx k).map fun p => (p.2 * sz, sz, p.1))
  | [], _, _, _, _ => trivial
  | a :: as, k, z, hs, hl => by
    have ha := hs a (by simp)
    have hk : k * sz + sz ≤ z.length := by
      have := (mul_step (sz := sz) (show k < k + (a :: as).length by simp) (Nat.le_refl _)).1
      omega
    have hol := over_len z (k * sz) (cellsL a) (by omega)
    refine ⟨ha.1, ha.2, hk, FillOk.rows sz as (k + 1) (over z (k * sz) (cellsL a)) (fun a ha => hs a (by simp [ha])) ?_⟩
    rw [hol]
    simpa [Nat.add_comm, Nat.add_left_comm, Nat.add_assoc] using hl
theorem fillv_len (sz : Nat) : ∀ (as : List AV) (k : Nat) (z : List AV), (∀ a ∈ as, (cellsL a).length = sz) → (k + as.length) * sz ≤ z.length → (fillv z ((as.zipIdx k).map fun p => (p.2 * sz, sz, p.1))).length = z.length
  | [], _, _, _, _ => rfl
  | a :: as, k, z, hs, hl => by
    have ha := hs a (by simp)
    have hk : k * sz + sz ≤ z.length := by
      have := (mul_step (sz := sz) (show k < k + (a :: as).length by simp) (Nat.le_refl _)).1
      omega
    have hol := over_len z (k * sz) (cellsL a) (by omega)
    simp only [List.zipIdx_cons, List.map_cons, fillv]
    rw [fillv_len sz as (k + 1) _ (fun a ha => hs a (by simp [ha])) (by rw [hol]; simpa [Nat.add_comm, Nat.add_left_comm, Nat.add_assoc] using hl), hol]

/-- A literal's run: a new block with its rows. -/
theorem run_rows {t : TypeId} {n sz : Nat} {ps : Array (Nat × Operand)} {qs : List Opd} {E : Env} {a : Act} (ho : o.op = .buildSlice t n ps) (hk : rowsIs P t sz n ps.toList qs = true) (hr : OpsRel E r a o)
    (hp : ∀ x ∈ qs.map fun p => cellsL (r p), x.length = sz ∧ x.all AV.plain = true) :
    ∃ e cs, (execOp a.eval o).run P E.w = .ok (.value (.slice (some ⟨E.w.heap.size, 0, none⟩) qs.length qs.length)) (E.w.alloc (.cells cs e)) ∧ cs.size = qs.length * sz ∧
      ∀ (i : Nat) (row : List AV) (j : Nat), (qs.map fun p => cellsL (r p))[i]? = some row → j < sz → ∃ v, cs[i * sz + j]? = some v ∧ v.oneCell' = true ∧ ∀ a, row[j]? = some a → VRel E a v := by
  simp only [rowsIs, Bool.and_eq_true, decide_eq_true_eq] at hk
  obtain ⟨⟨⟨⟨hk, hrow⟩, hn⟩, hsz⟩, hbig⟩ := hk
  have hn : n = qs.length := by simpa using hn
  subst hn
  split at hk
  · rename_i e he
    simp only [Bool.and_eq_true] at hk
    obtain ⟨hes, hk⟩ := hk
    split at hk
    · rename_i i hi
      split at hk
      · rename_i zv hzv
        simp only [Bool.and_eq_true, beq_iff_eq] at hk
        obtain ⟨hzs, hz1⟩ := hk
        have mem : ∀ (j i : Nat) x, ps.toList[j]? = some (i, x) → x ∈ o.op.operands := fun j i x h => by
          simp only [ho, Op.operands]
          simp
          exact ⟨i, by simpa using Array.mem_of_getElem? (by simpa using h)⟩
        have hall : ∀ a ∈ qs.map r, (cellsL a).length = sz ∧ (cellsL a).all AV.plain = true := fun a ha => by
          obtain ⟨q, hq, rfl⟩ := List.mem_map.1 ha
          exact hp _ (List.mem_map.2 ⟨q, hq, rfl⟩)
        have hzone : ∀ (c : Array Value), c = (if qs.length * sz = 0 then #[] else zv.cells) → CellsRel E (List.replicate (qs.length * sz) .any) ((Array.range (qs.length * sz)).map fun j => c[j % c.size]!) := fun c hc => by
          refine ⟨by simp, fun i v hv => ?_, fun i a v ha hv => ?_⟩
          · have hlt := (Array.getElem?_eq_some_iff.1 hv).1
            simp at hlt
            have hne : ¬ qs.length * sz = 0 := by omega
            rw [if_neg hne] at hc
            subst hc
            simp [hlt] at hv
            have hmod : i % zv.cells.size < zv.cells.size := Nat.mod_lt _ (by omega)
            rw [getElem!_pos zv.cells _ hmod] at hv
            subst hv
            exact Array.all_eq_true_iff_forall_mem.1 hz1 _ (Array.getElem_mem hmod)
          · rw [List.getElem?_replicate] at ha
            split at ha
            · cases ha; exact .any _
            · cases ha
        have hqs : ((qs.map r).zipIdx 0).map (fun p => (p.2 * sz, sz, p.1)) = ((qs.map r).zipIdx 0).map (fun p => (p.2 * sz, sz, p.1)) := rfl
        have hfill : ∀ c, c = (if qs.length * sz = 0 then #[] else zv.cells) → ∃ c', Instr.fill (fun i => some (i * sz, sz)) ((Array.range (qs.length * sz)).map fun j => c[j % c.size]!) (ps.toList.map fun p => (p.1, a.eval p.2)) = some c' ∧
            CellsRel E (fillv (List.replicate (qs.length * sz) .any) (((qs.map r).zipIdx 0).map (fun p => (p.2 * sz, sz, p.1)))) c' := fun c hc => by
          refine fill_run _ _ _ _ _ (hzone c hc) (by simp [rowOk_len hrow]) (fun j i v off sz' a' h1 h2 => ?_) (FillOk.rows sz _ 0 _ hall (by simp))
          rw [List.getElem?_map] at h1 h2
          cases e1 : ps.toList[j]? with
          | none => simp [e1] at h1
          | some p =>
            obtain ⟨pi, px⟩ := p
            cases e2 : qs[j]? with
            | none => simp [e2, List.getElem?_zipIdx] at h2
            | some q =>
              simp [e1] at h1
              simp [e2, List.getElem?_zipIdx] at h2
              obtain ⟨rfl, rfl⟩ := h1
              obtain ⟨rfl, rfl, rfl⟩ := h2
              obtain ⟨h3, h4⟩ := rowOk_at hrow j pi px q e1 e2
              simp at h3
              subst h3
              exact ⟨rfl, hr.at_ (mem _ _ _ e1) h4⟩
        obtain ⟨c', hc1, hc2⟩ := hfill _ rfl
        have hcl := hc2.len
        rw [fillv_len sz _ 0 _ (fun a ha => (hall a ha).1) (by simp)] at hcl
        refine ⟨e, c', ?_, by simpa using hcl, fun i row j hi' hj => ?_⟩
        · have hlim : ¬ (qs.length * sz > 2 ^ 24) := by simp; omega
          by_cases h0 : qs.length * sz = 0
          · rw [if_pos h0] at hc1
            simp only [h0] at hc1 hlim
            simp [execOp, ho, Instr.buildSlice, run_underlying he, run_sizeOf hes, h0, newRow]
            have e0 : ∀ f : Nat → Value, (Array.range 0).map f = #[] := fun f => by rw [show Array.range 0 = #[] from rfl]; simp
            rw [e0] at hc1 ⊢
            rw [hc1]
            simp
          · rw [if_neg h0] at hc1
            simp [execOp, ho, Instr.buildSlice, run_underlying he, run_sizeOf hes, h0, newRow, zeroValue, typeInfo, hi, hzv]
            rw [if_neg (by omega), hc1]
            simp
        · have hlt : i < qs.length := by have := (List.getElem?_eq_some_iff.1 hi').1; simpa using this
          have hget := fillv_get sz (qs.map r) 0 (List.replicate (qs.length * sz) .any) (fun a ha => (hall a ha).1) (by simp) i j (by simpa using hlt) hj
          obtain ⟨v, hv1, hv2, hv3⟩ := hc2.get (j := i * sz + j) (by
            rw [fillv_len sz _ 0 _ (fun a ha => (hall a ha).1) (by simp)]
            have := (mul_step (sz := sz) hlt (Nat.le_refl qs.length)).1
            simp; omega)
          refine ⟨v, hv1, hv2, fun b hb => hv3 b ?_⟩
          simp only [Nat.zero_add] at hget
          rw [hget]
          cases hq : qs[i]? with
          | none => simp [hq] at hi'
          | some q => simp [hq] at hi' ⊢; subst hi'; exact hb
      · cases hk
    · cases hk
  · cases hk

theorem rows_cells {E : Env} {sz : Nat} {rows : List (List AV)} {cs : Array Value} {b base : Nat} {e : TypeId} (hb : E.w.heap[b]? = some (.cells cs e (0, 0))) (hl : base + rows.length * sz ≤ cs.size) (hr : ∀ x ∈ rows, x.length = sz)
    (h : ∀ (i : Nat) (row : List AV) (j : Nat), rows[i]? = some row → j < sz → ∃ v, cs[base + i * sz + j]? = some v ∧ v.oneCell' = true ∧ ∀ a, row[j]? = some a → VRel E a v) : ORel E (.rows sz rows) ⟨b, base, sz⟩ :=
  .mk (e := e) rfl hb hl (fun i r hi => hr r (List.mem_of_getElem? hi)) h

theorem ok_rowOwn {t : TypeId} {n sz : Nat} {ps : Array (Nat × Operand)} {qs : List Opd} (ho : o.op = .buildSlice t n ps) (hk : rowsIs P t sz n ps.toList qs = true) (hp : ∀ x ∈ qs.map fun p => cellsL (r p), x.length = sz ∧ x.all AV.plain = true) :
    OpOk P o r H (Is (.sl H.length 0 qs.length) (H ++ [.rows sz (qs.map fun p => cellsL (r p))])) :=
  .go fun E a hr hH => by
    obtain ⟨e, cs, h1, h2, h3⟩ := run_rows ho hk hr hp
    have t : Turned E.w (E.w.alloc (.cells cs e)) (fun _ => False) := .push _ rfl rfl rfl rfl
    have hnew : (E.w.alloc (.cells cs e)).heap[E.w.heap.size]? = some (.cells cs e (0, 0)) := by
      show (E.w.heap.push _)[E.w.heap.size]? = _
      simp
    obtain ⟨g1, g2⟩ := hH.bear t (l := ⟨E.w.heap.size, 0, sz⟩) (Nat.le_refl _) (by simp) (o := .rows sz (qs.map fun p => cellsL (r p))) (fun x =>
      rows_cells (e := e) hnew (by simp [h2]) (fun y hy => (hp y hy).1) (fun i row j hi hj => by
        obtain ⟨v, v1, v2, v3⟩ := h3 i row j hi hj
        exact ⟨v, by simpa using v1, v2, fun a ha => (v3 a ha).ext (Nat.le_refl _) x⟩))
    refine ⟨_, _, .inl h1, ?_, g1, g2⟩
    refine .sl (by simp [hH.n]) rfl (fun l hl => ?_)
    simp only [Sx.bear, hH.n, if_true] at hl
    cases hl
    exact ⟨qs.length, 0, by simp, Nat.le_refl _, ⟨cs, e, (0, 0), hnew, by simp [h2]⟩, .inl rfl⟩

theorem ok_rowView {t : TypeId} {n sz : Nat} {ps : Array (Nat × Operand)} {qs : List Opd} (ho : o.op = .buildSlice t n ps) (hk : rowsIs P t sz n ps.toList qs = true) (hp : ∀ x ∈ qs.map fun p => cellsL (r p), x.length = sz ∧ x.all AV.plain = true) :
    OpOk P o r H (Is (.view (qs.map fun p => cellsL (r p))) H) :=
  .go fun E a hr hH => by
    obtain ⟨e, cs, h1, h2, h3⟩ := run_rows ho hk hr hp
    have t : Turned E.w (E.w.alloc (.cells cs e)) (fun _ => False) := .push _ rfl rfl rfl rfl
    have hnew : (E.w.alloc (.cells cs e)).heap[E.w.heap.size]? = some (.cells cs e (0, 0)) := by
      show (E.w.heap.push _)[E.w.heap.size]? = _
      simp
    obtain ⟨g1, g2⟩ := hH.grow t
    refine ⟨_, _, .inl h1, ?_, g1, g2⟩
    have hlen : qs.length = (qs.map fun p => cellsL (r p)).length := by simp
    rw [hlen]
    refine .view (sz := sz) (fun i j => cs.getD (i * sz + j) undef) ⟨by simp, fun id l hl => ?_, fun hx => ?_⟩ (Nat.le_refl _) (fun i r hi => (hp r (List.mem_of_getElem? hi)).1) (fun i j hi hj => ?_) (fun i j hi hj => ?_) (fun i row j a hi hj => ?_)
    · have := hH.own_lt hl; simp at this ⊢; omega
    · have := hH.xlt _ hx; simp at this
    · have hi' : (qs.map fun p => cellsL (r p))[i]? = some _ := List.getElem?_eq_getElem hi
      obtain ⟨v, v1, v2, v3⟩ := h3 i _ j hi' hj
      show (E.w.alloc (.cells cs e)).cell? ⟨E.w.heap.size, 0 + i * sz + j, none⟩ = _
      rw [World.cell?_alloc_new]
      simp [v1, Array.getD_eq_getD_getElem?]
    · have hi' : (qs.map fun p => cellsL (r p))[i]? = some _ := List.getElem?_eq_getElem hi
      obtain ⟨v, v1, v2, v3⟩ := h3 i _ j hi' hj
      simpa [Array.getD_eq_getD_getElem?, v1] using v2
    · have hlt := (List.getElem?_eq_some_iff.1 hj).1
      obtain ⟨v, v1, v2, v3⟩ := h3 i row j hi (by have := (hp row (List.mem_of_getElem? hi)).1; omega)
      simpa [Array.getD_eq_getD_getElem?, v1] using (v3 a hj).ext (Nat.le_refl _) g2
end
end Go.Proofs.Ytnjpfoblmomnlaa.Sx
/- That append and make do what the small language says. No conditions: a kit of our own. -/
namespace Go.Proofs.Ytnjpfoblmomnlaa.Sx
open Go Go.RowKit
set_option linter.unusedVariables false
set_option linter.unusedSimpArgs false

/-- The cells of a slice's first n elements lie there. -/
structure Src (P : Program) (w : World) (size n : Nat) (x : Value) (news : List Value) : Prop where
  run : ∀ w', w'.heap = w.heap → (Builtin.firstCells size n x).run P w' = .ok news.toArray w'
  len : ∀ w', (Builtin.lenOf x).run P w' = .ok n w'
  size : news.length = n * size

theorem nextslicecap_le {need old : Nat} (h : need ≤ mostRows) (h' : old < need) : Builtin.nextslicecap need old ≤ 4294967296 := by
  unfold mostRows at h
  have grow : ∀ k c, c ≤ 2147483648 → Builtin.growBy need k c ≤ 2147483648 := by
    intro k
    induction k with
    | zero => intro c hc; simpa [Builtin.growBy] using hc
    | succ k ih =>
      intro c hc
      simp only [Builtin.growBy]
      split
      · exact hc
      · exact ih _ (by omega)
  unfold Builtin.nextslicecap
  split
  · omega
  · split
    · omega
    · have := grow 4 old (by omega); omega

section
variable {P : Program} {o : Oper} {r : Opd → AV} {H : List AObj}

def appIs (P : Program) (ts : Array TypeId) (sz : Nat) : Bool := match ts.toList with
  | [t, u] => (match P.underlying t with
      | some (.slice e) => sizeIs P e sz && (match P.info? e with | some i => decide (i.bytes ≤ 65536) && (match i.zero with | some v => v.cells.size == sz | none => false) | none => false)
      | _ => false) && (match P.underlying u with | some (.slice _) => true | _ => false) && decide (0 < sz)
  | _ => false

theorem appIs_run {ts : Array TypeId} {sz : Nat} (h : appIs P ts sz = true) : ∃ t u e e' i z, ts = #[t, u] ∧ P.underlying t = some (.slice e) ∧ P.underlying u = some (.slice e') ∧ P.info? e = some i ∧ i.size = sz ∧ i.bytes ≤ 65536 ∧ i.zero = some z ∧
    z.cells.size = sz ∧ 0 < sz := by
  unfold appIs at h
  split at h
  · rename_i t u htu
    simp only [Bool.and_eq_true, decide_eq_true_eq] at h
    obtain ⟨⟨h1, h2⟩, h3⟩ := h
    split at h1
    · rename_i e he
      simp only [Bool.and_eq_true] at h1
      obtain ⟨h4, h5⟩ := h1
      obtain ⟨i, hi, hs⟩ := sizeIs_run h4
      simp only [hi, Bool.and_eq_true, decide_eq_true_eq] at h5
      obtain ⟨h6, h7⟩ := h5
      split at h7
      · rename_i z hz
        split at h2
        · rename_i e' he'
          exact ⟨t, u, e, e', i, z, by rw [← htu], he, he', hi, hs, h6, hz, by simpa using h7, h3⟩
        · cases h2
      · cases h7
    · cases h1
  · cases h

theorem run_append_in {t u e e' e0 : TypeId} {i : TypeInfo} {ty : TypeId} (ht : P.underlying t = some (.slice e)) (hu : P.underlying u = some (.slice e')) (hi : P.info? e = some i) (w : World) {g o' sLen sCap m : Nat} {x : Value} {cur : Array Value} {news : List Value}
    (hg : w.heap[g]? = some (.cells cur e0 (0, 0))) (hx : Src P w i.size m x news) (h1 : ∀ u ∈ news, u.oneCell' = true) (hroom : sLen + m ≤ sCap) (hfit : o' + sLen * i.size + news.length ≤ cur.size) :
    (Builtin.append_ #[t, u] ty #[.slice (some ⟨g, o', none⟩) sLen sCap, x]).run P w =
      .ok (.slice (some ⟨g, o', none⟩) (sLen + m) sCap) (w.setRow g (cur.toList.take (o' + sLen * i.size) ++ news ++ cur.toList.drop (o' + sLen * i.size + news.length)).toArray) := by
  have hst := run_storeCells_at P g (o' + sLen * i.size) e0 news 0 cur w hg (by simpa using hfit) h1
  simp only [Nat.add_zero] at hst
  simp [Builtin.append_, run_underlying ht, run_underlying hu, sizeOf, typeInfo, hi, hx.len w, hroom, hx.run w rfl, add_addr, hst]

theorem run_append_new {t u e e' : TypeId} {i : TypeInfo} {ty : TypeId} {z : Value} (ht : P.underlying t = some (.slice e)) (hu : P.underlying u = some (.slice e')) (hi : P.info? e = some i) (hz : i.zero = some z) (w : World) {sLen sCap m : Nat} {q : Option Addr} {x : Value}
    {olds news : List Value} (ho : ∀ w', w'.heap = w.heap → (Builtin.firstCells i.size sLen (.slice q sLen sCap)).run P w' = .ok olds.toArray w') (hx : Src P w i.size m x news) (hroom : sCap < sLen + m) (hm : sLen + m ≤ mostRows) (hb : i.bytes ≤ 65536) :
    ∃ c, sLen + m ≤ c ∧ (Builtin.append_ #[t, u] ty #[.slice q sLen sCap, x]).run P w =
      .ok (.slice (some ⟨w.heap.size, 0, none⟩) (sLen + m) c) (w.drew.alloc (.cells (olds.toArray ++ news.toArray ++ Builtin.zeroCells z.cells (c - (sLen + m))) e)) := by
  have hn : ¬ (sLen + m ≤ sCap) := by omega
  have h63 : ¬ (9223372036854775807 < ((sLen : Int) + (m : Int))) := by unfold mostRows at hm; omega
  have h48 : ¬ (281474976710656 < Builtin.nextslicecap (sLen + m) sCap * i.bytes) := by
    have h1 := nextslicecap_le hm hroom
    have h2 := Nat.mul_le_mul h1 hb
    omega
  refine ⟨grownCap w (sLen + m) sCap e, grownCap_ge _ _ _ _, ?_⟩
  simp [Builtin.append_, run_underlying ht, run_underlying hu, sizeOf, typeInfo, zeroValue, hi, hz, hx.len w, hn, h63, h48, Question.forced, hx.run w.drew rfl, ho w.drew rfl, newRow, grownCap]
  congr 2
  apply Array.ext'
  simp [List.append_assoc]

theorem src_cells {w : World} {size n cap b o' : Nat} {news : List Value} (hl : news.length = n * size) (h : ∀ (j : Nat) v, news[j]? = some v → w.cell? ⟨b, o' + j, none⟩ = some v) : Src P w size n (.slice (some ⟨b, o', none⟩) n cap) news :=
  ⟨fun w' hw => run_firstCells_some w' size n ⟨b, o', none⟩ n cap news hl (fun j v hv => by rw [add_addr, ← h j v hv]; simp only [World.cell?, hw]), fun w' => by simp [Builtin.lenOf], hl⟩
theorem src_none {w : World} {size cap : Nat} : Src P w size 0 (.slice none 0 cap) [] :=
  ⟨fun w' _ => run_firstCells_none w' size 0 0 cap, fun w' => by simp [Builtin.lenOf], by simp⟩

/-- Rows that lie one behind the other from a place on. -/
structure RowsAt (E : Env) (sz : Nat) (rows : List (List AV)) (news : List Value) : Prop where
  len : news.length = rows.length * sz
  one : ∀ v ∈ news, v.oneCell' = true
  at_ : ∀ (i : Nat) (row : List AV) (j : Nat), rows[i]? = some row → j < sz → ∃ v, news[i * sz + j]? = some v ∧ ∀ a, row[j]? = some a → VRel E a v

theorem RowsAt.nil {E : Env} {sz : Nat} : RowsAt E sz [] [] := ⟨by simp, by simp, fun i row j h => by simp at h⟩

theorem RowsAt.append {E : Env} {sz : Nat} {A B : List (List AV)} {a b : List Value} (h : RowsAt E sz A a) (k : RowsAt E sz B b) : RowsAt E sz (A ++ B) (a ++ b) :=
  ⟨by simp [h.len, k.len, Nat.add_mul], fun v hv => by rcases List.mem_append.1 hv with hv | hv; exact h.one v hv; exact k.one v hv, fun i row j hi hj => by
    have hl := h.len
    by_cases hlt : i < A.length
    · rw [List.getElem?_append_left hlt] at hi
      obtain ⟨v, v1, v2⟩ := h.at_ i row j hi hj
      have hv := (List.getElem?_eq_some_iff.1 v1).1
      exact ⟨v, by rw [List.getElem?_append_left hv]; exact v1, v2⟩
    · rw [List.getElem?_append_right (by omega)] at hi
      obtain ⟨v, v1, v2⟩ := k.at_ (i - A.length) row j hi hj
      have e : i * sz = A.length * sz + (i - A.length) * sz := by rw [← Nat.add_mul]; congr 1; omega
      exact ⟨v, by rw [List.getElem?_append_right (by omega), show i * sz + j - a.length = (i - A.length) * sz + j by omega]; exact v1, v2⟩⟩

/-- Out of a function on places. -/
theorem RowsAt.of {E : Env} {sz : Nat} {rows : List (List AV)} (f : Nat → Value) (h1 : ∀ k, k < rows.length * sz → (f k).oneCell' = true)
    (h : ∀ (i : Nat) (row : List AV) (j : Nat) a, rows[i]? = some row → row[j]? = some a → j < sz → VRel E a (f (i * sz + j))) : RowsAt E sz rows ((List.range (rows.length * sz)).map f) :=
  ⟨by simp, fun v hv => by obtain ⟨k, hk, rfl⟩ := List.mem_map.1 hv; exact h1 k (List.mem_range.1 hk), fun i row j hi hj => by
    have hlt := (List.getElem?_eq_some_iff.1 hi).1
    have := (mul_step (sz := sz) hlt (Nat.le_refl rows.length)).1
    exact ⟨f (i * sz + j), by simp [show i * sz + j < rows.length * sz by omega], fun a ha => h i row j a hi ha hj⟩⟩

theorem divmod (sz k n : Nat) (h : k < n * sz) : k / sz < n ∧ k % sz < sz ∧ k / sz * sz + k % sz = k := by
  by_cases hz : sz = 0
  · subst hz; simp at h
  · exact ⟨Nat.div_lt_of_lt_mul (by rw [Nat.mul_comm]; exact h), Nat.mod_lt _ (by omega), by have := Nat.div_add_mod k sz; rw [Nat.mul_comm] at this; exact this⟩

theorem srcRows_some {x : AV} {k : List (List AV) → Prop} (h : srcRows H x k) : ∃ rows, k rows ∧ srcRows H x (fun y => y = rows) := by
  unfold srcRows at h ⊢
  split at h
  · exact ⟨_, h, rfl⟩
  · exact ⟨_, h, rfl⟩
  · exact ⟨_, h, rfl⟩
  · split at h
    · rename_i hid; rw [hid] at *; exact ⟨_, h.2, h.1, rfl⟩
    · exact h.elim
  · exact h.elim

/-- A slice that is read has its rows. -/
theorem src_of0 {E : Env} (hH : HRel E H) {x : AV} {v : Value} {rows : List (List AV)} {sz : Nat} (hx : VRel E x v) (h : srcRows H x (fun y => y = rows)) (hs : ∀ y ∈ rows, y.length = sz) (hsz : 0 < sz) (hcv : ∀ es, x ≠ .cv es) :
    ∃ news, Src P E.w sz rows.length v news ∧ RowsAt E sz rows news := by
  cases x <;> simp only [srcRows] at h
  case cv es => exact absurd rfl (hcv es)
  case nils => subst h; cases hx; exact ⟨[], src_none, .nil⟩
  case view es =>
    subst h
    cases hx with
    | view0 a cap =>
      refine ⟨[], ?_, .nil⟩
      cases a with
      | none => exact src_none
      | some a => exact ⟨fun w' _ => by simp [Builtin.firstCells, loadCells, loadCellsFrom], fun w' => by simp [Builtin.lenOf], by simp⟩
    | view c hb hcap hsz' hc h1 h =>
      rename_i b o' cap sz'
      by_cases he : es = []
      · subst he
        exact ⟨[], ⟨fun w' _ => by simp [Builtin.firstCells, loadCells, loadCellsFrom], fun w' => by simp [Builtin.lenOf], by simp⟩, .nil⟩
      · have e1 : sz' = sz := by
          cases es with
          | nil => exact absurd rfl he
          | cons y ys => have := hsz' 0 y (by simp); have := hs y (by simp); omega
        subst e1
        refine ⟨_, src_cells (by simp) (fun j v hj => ?_), .of (fun k => c (k / sz') (k % sz')) (fun k hk => ?_) (fun i row j a hi hj hlt => ?_)⟩
        · have hlt : j < es.length * sz' := by have := (List.getElem?_eq_some_iff.1 hj).1; simpa using this
          simp [hlt] at hj
          obtain ⟨h2, h3, h4⟩ := divmod sz' j es.length hlt
          have := hc _ _ h2 h3
          rw [show o' + j / sz' * sz' + j % sz' = o' + j by omega, hj] at this
          exact this
        · obtain ⟨h2, h3, h4⟩ := divmod sz' k es.length hk
          exact h1 _ _ h2 h3
        · have : (i * sz' + j) / sz' = i ∧ (i * sz' + j) % sz' = j := by
            rw [Nat.mul_comm]
            exact ⟨by rw [Nat.mul_add_div hsz, Nat.div_eq_of_lt hlt]; simp, by rw [Nat.mul_add_mod, Nat.mod_eq_of_lt hlt]⟩
          rw [this.1, this.2]
          exact h i row j a hi hj
  case sl id r0 len =>
    split at h
    · rename_i sz' rs hid
      obtain ⟨hle, rfl⟩ := h
      obtain ⟨l, cap, i', hl, rfl, hcap, hroom, hor, hi'⟩ := hx.sl_inv hH hid (by simp)
      cases hor with
      | rows cs e hs' hb hlen hrr h1 hh =>
        by_cases h0 : len = 0
        · subst h0
          refine ⟨[], ⟨fun w' _ => by simp [Builtin.firstCells, loadCells, loadCellsFrom], fun w' => by simp [Builtin.lenOf], by simp⟩, ?_⟩
          simp
          exact .nil
        · obtain rfl : i' = r0 := hi'.resolve_right (by omega)
          have hrl : ((rs.drop i').take len).length = len := by simp; omega
          have e1 : sz' = sz := by
            have h2 : ((rs.drop i').take len)[0]? = some (rs[i']'(by omega)) := by
              rw [List.getElem?_take]; simp [show 0 < len by omega]
            have h3 := hs _ (List.mem_of_getElem? h2)
            have h4 := hrr i' _ (List.getElem?_eq_getElem (by omega))
            omega
          subst e1
          have hm : i' * sz' + len * sz' ≤ rs.length * sz' := by rw [← Nat.add_mul]; exact Nat.mul_le_mul_right _ (by omega)
          have s1 : Src P E.w sz' len (.slice (some ⟨l.b, l.base + i' * l.sz, none⟩) len cap) ((List.range (len * sz')).map fun k => cs.getD (l.base + i' * sz' + k) undef) := src_cells (by simp) (fun j v hj => by
            have hlt : j < len * sz' := by have := (List.getElem?_eq_some_iff.1 hj).1; simpa using this
            simp [hlt] at hj
            have hlt2 : l.base + i' * sz' + j < cs.size := by omega
            subst hs'
            simp [World.cell?, hb, hlt2, Array.getD_eq_getD_getElem?] at hj ⊢
            exact hj)
          have s2 : RowsAt E sz' ((rs.drop i').take len) ((List.range (((rs.drop i').take len).length * sz')).map fun k => cs.getD (l.base + i' * sz' + k) undef) := .of (fun k => cs.getD (l.base + i' * sz' + k) undef) (fun k hk => by
              rw [hrl] at hk
              have hlt2 : l.base + i' * sz' + k < cs.size := by omega
              simp only [Array.getD_eq_getD_getElem?, Array.getElem?_eq_getElem hlt2, Option.getD_some]
              exact h1 (i' * sz' + k) _ (by omega) (by rw [← Nat.add_assoc]; exact Array.getElem?_eq_getElem hlt2)) (fun i row j a hi hj hlt => by
              have hil : i < len := by have := (List.getElem?_eq_some_iff.1 hi).1; omega
              rw [List.getElem?_take, if_pos hil, List.getElem?_drop] at hi
              have hri := (List.getElem?_eq_some_iff.1 hi).1
              have hmm := (mul_step (sz := sz') hri (Nat.le_refl rs.length)).1
              have e2 : l.base + i' * sz' + (i * sz' + j) = l.base + (i' + i) * sz' + j := by rw [Nat.add_mul]; omega
              have hlt2 : l.base + (i' + i) * sz' + j < cs.size := by omega
              simp only [e2, Array.getD_eq_getD_getElem?, Array.getElem?_eq_getElem hlt2, Option.getD_some]
              exact hh (i' + i) row j a _ hi hj (Array.getElem?_eq_getElem hlt2))
          rw [hrl] at s2 ⊢
          exact ⟨_, s1, s2⟩
    · exact h.elim
  all_goals exact h.elim

theorem src_of {E : Env} (hH : HRel E H) {x : AV} {v : Value} {rows : List (List AV)} {sz : Nat} (hx : VRel E x v) (h : srcRows H x (fun y => y = rows)) (hs : ∀ y ∈ rows, y.length = sz) (hsz : 0 < sz) :
    ∃ news, Src P E.w sz rows.length v news ∧ RowsAt E sz rows news := by
  cases x with
  | cv es =>
    cases hx with
    | cv hx _ => exact src_of0 (x := .view es) hH hx h hs hsz (by simp)
  | _ => exact src_of0 hH hx h hs hsz (by simp)
theorem zeroCells_size {z : Value} {n sz : Nat} (h : z.cells.size = sz) : (Builtin.zeroCells z.cells n).size = n * sz := by rw [size_zeroCells, h]

/-- An append to nothing: a new row. -/
theorem ok_app_nil {d s : Operand} {d' s' : Opd} {ts : Array TypeId} {sz : Nat} {rows : List (List AV)} (ho : o.op = .call { callee := .builtin .append, args := #[d, s], argTypes := ts }) (hd : opdOk d d' = true) (hs : opdOk s s' = true)
    (ht : appIs P ts sz = true) (h1 : r d' = .nils) (h2 : srcRows H (r s') (fun y => y = rows)) (h3 : ∀ y ∈ rows, y.length = sz) (h4 : rows ≠ []) (h5 : rows.length ≤ mostRows) :
    OpOk P o r H (Is (.sl H.length 0 rows.length) (H ++ [.rows sz rows])) :=
  .go fun E a hr hH => by
    obtain ⟨t, u, e, e', i, z, rfl, he, he', hi, his, hib, hz, hzs, hsz⟩ := appIs_run ht
    have g1 := hr.at_ (x := d) (by simp [ho, Op.operands, Call.operands]) hd
    have g2 := hr.at_ (x := s) (by simp [ho, Op.operands, Call.operands]) hs
    rw [h1] at g1
    have gv : a.eval d = .slice none 0 0 := by generalize a.eval d = v at g1; cases g1; rfl
    obtain ⟨news, hsrc, hrows⟩ := src_of hH g2 h2 h3 hsz
    have hpos : 0 < rows.length := List.length_pos_iff.2 h4
    subst his
    obtain ⟨c, hc, hrun⟩ := run_append_new (ty := o.type) he he' hi hz E.w (sLen := 0) (sCap := 0) (q := none) (olds := []) (fun w' _ => run_firstCells_none w' _ 0 0 0) hsrc (by omega) (by omega) hib
    simp only [Nat.zero_add, List.nil_append] at hrun hc
    have tt : Turned E.w (E.w.drew.alloc (.cells (news.toArray ++ Builtin.zeroCells z.cells (c - rows.length)) e)) (fun _ => False) := .push _ rfl rfl rfl rfl
    have hnew : (E.w.drew.alloc (.cells (news.toArray ++ Builtin.zeroCells z.cells (c - rows.length)) e)).heap[E.w.heap.size]? = some (.cells (news.toArray ++ Builtin.zeroCells z.cells (c - rows.length)) e (0, 0)) := by
      show (E.w.heap.push _)[E.w.heap.size]? = _
      simp
    have hsize : (news.toArray ++ Builtin.zeroCells z.cells (c - rows.length)).size = c * i.size := by
      rw [Array.size_append, zeroCells_size hzs]
      simp [hrows.len]
      rw [← Nat.add_mul]; congr 1; omega
    obtain ⟨k1, k2⟩ := hH.bear tt (l := ⟨E.w.heap.size, 0, i.size⟩) (Nat.le_refl _) (by simp) (o := .rows i.size rows) (fun x =>
      rows_cells (e := e) hnew (by rw [hsize]; simp; exact Nat.mul_le_mul_right _ hc) h3 (fun k row j hk hj => by
        obtain ⟨v, v1, v3⟩ := hrows.at_ k row j hk hj
        have hlt := (List.getElem?_eq_some_iff.1 v1).1
        exact ⟨v, by rw [Array.getElem?_append_left (by simpa using hlt)]; simpa using v1, hrows.one v (List.mem_of_getElem? v1), fun a ha => (v3 a ha).ext (Nat.le_refl _) x⟩))
    refine ⟨.slice (some ⟨E.w.heap.size, 0, none⟩) rows.length c, _, .inl ?_, ?_, k1, k2⟩
    · rw [call_builtin _ _ _ _ _ ho]
      simp only [builtin, List.map_toArray, List.map_cons, List.map_nil, gv, Sem.run_bind, hrun, Result.andThen_ok]
      simp
    · refine .sl (by simp [hH.n]) rfl (fun l hl => ?_)
      simp only [Sx.bear, hH.n, if_true] at hl
      cases hl
      exact ⟨c, 0, by simp, hc, ⟨_, e, (0, 0), hnew, by rw [hsize]; simp⟩, .inl rfl⟩

theorem run_append_none {t u e e' : TypeId} {i : TypeInfo} {ty : TypeId} (ht : P.underlying t = some (.slice e)) (hu : P.underlying u = some (.slice e')) (hi : P.info? e = some i) (w : World) {x : Value} (hx : Src P w i.size 0 x []) :
    (Builtin.append_ #[t, u] ty #[.slice none 0 0, x]).run P w = .ok (.slice none 0 0) w := by
  simp [Builtin.append_, run_underlying ht, run_underlying hu, sizeOf, typeInfo, hi, hx.len w, hx.run w rfl]
/-- An append to nothing, of what may be nothing. -/
theorem ok_app_nils {d s : Operand} {d' s' : Opd} {ts : Array TypeId} {sz : Nat} {rows : List (List AV)} (ho : o.op = .call { callee := .builtin .append, args := #[d, s], argTypes := ts }) (hd : opdOk d d' = true) (hs : opdOk s s' = true)
    (ht : appIs P ts sz = true) (h1 : r d' = .nils) (h2 : srcRows H (r s') (fun y => y = rows)) (h3 : ∀ y ∈ rows, y.length = sz) (h5 : rows.length ≤ mostRows) :
    OpOk P o r H (Is (bs H.length rows) (H ++ [bob sz rows])) := by
  rcases rows with _ | ⟨y, rows⟩
  · exact .go fun E a hr hH => by
      obtain ⟨t, u, e, e', i, z, rfl, he, he', hi, his, hib, hz, hzs, hsz⟩ := appIs_run ht
      have g1 := hr.at_ (x := d) (by simp [ho, Op.operands, Call.operands]) hd
      have g2 := hr.at_ (x := s) (by simp [ho, Op.operands, Call.operands]) hs
      rw [h1] at g1
      have gv : a.eval d = .slice none 0 0 := by generalize a.eval d = v at g1; cases g1; rfl
      obtain ⟨news, hsrc, hrows⟩ := src_of hH g2 h2 h3 hsz
      have hn : news = [] := by have := hrows.len; simpa using this
      subst hn
      subst his
      obtain ⟨k1, k2⟩ := hH.gap
      have hrun := run_append_none (ty := o.type) he he' hi E.w hsrc
      refine ⟨.slice none 0 0, ⟨E.w, E.s, E.n + 1, E.x⟩, .inl ?_, .nils, k1, k2⟩
      rw [call_builtin _ _ _ _ _ ho]
      simp only [builtin, List.map_toArray, List.map_cons, List.map_nil, gv, Sem.run_bind, hrun, Result.andThen_ok]
      simp
  · exact ok_app_nil ho hd hs ht h1 h2 h3 (by simp) h5

/-- An append to a row of one's own: it goes on under a new name, in place or not. -/
theorem ok_app_sl {d s : Operand} {d' s' : Opd} {ts : Array TypeId} {sz id r0 len : Nat} {rs rows : List (List AV)} (ho : o.op = .call { callee := .builtin .append, args := #[d, s], argTypes := ts }) (hd : opdOk d d' = true) (hs : opdOk s s' = true)
    (ht : appIs P ts sz = true) (h1 : r d' = .sl id r0 len) (hid : H[id]? = some (.rows sz rs)) (h0 : r0 + len = rs.length) (h2 : srcRows H (r s') (fun y => y = rows)) (h3 : ∀ y ∈ rows, y.length = sz) (h5 : len + rows.length ≤ mostRows) :
    OpOk P o r H (Is (.sl H.length 0 (len + rows.length)) (H.set id .dead ++ [.rows sz (rs.drop r0 ++ rows)])) :=
  .go fun E a hr hH => by
    obtain ⟨t, u, e, e', i, z, rfl, he, he', hi, his, hib, hz, hzs, hsz⟩ := appIs_run ht
    have g1 := hr.at_ (x := d) (by simp [ho, Op.operands, Call.operands]) hd
    have g2 := hr.at_ (x := s) (by simp [ho, Op.operands, Call.operands]) hs
    rw [h1] at g1
    obtain ⟨l, cap, i', hl, gv, hcap, hroom, hor, hi'⟩ := g1.sl_inv hH hid (by simp)
    obtain ⟨news, hsrc, hrows⟩ := src_of hH g2 h2 h3 hsz
    subst his
    cases hor with
    | rows cs e0 hs' hb hlen hrr h1' hh =>
      have hnl : (rs.drop r0).length = len := by simp; omega
      have hrm : r0 * i.size + len * i.size = rs.length * i.size := by rw [← Nat.add_mul, h0]
      have hall : ∀ y ∈ rs.drop r0 ++ rows, y.length = i.size := fun y hy => by
        rcases List.mem_append.1 hy with hy | hy
        · obtain ⟨k, hk⟩ := List.getElem?_of_mem (List.mem_of_mem_drop hy)
          exact hrr k y hk
        · exact h3 y hy
      by_cases hfit : len + rows.length ≤ cap
      · -- in place
        obtain ⟨cs', e1, fr, hb', hroom⟩ := hroom
        rw [hb] at hb'
        cases hb'
        have hcm : (i' + cap) * l.sz = i' * i.size + cap * i.size := by rw [hs', Nat.add_mul]
        have hcm2 : len * i.size + rows.length * i.size ≤ cap * i.size := by rw [← Nat.add_mul]; exact Nat.mul_le_mul_right _ hfit
        have hnsz := hrows.len
        have hrun := run_append_in (ty := o.type) he he' hi E.w hb hsrc hrows.one hfit (sLen := len) (sCap := cap) (o' := l.base + i' * l.sz) (by rw [hs']; omega)
        have tt := Turned.row (cs' := (cs.toList.take (l.base + i' * l.sz + len * i.size) ++ news ++ cs.toList.drop (l.base + i' * l.sz + len * i.size + news.length)).toArray) hb (by simp [hs']; omega)
        have hnew := setRow_heap E.w l.b cs (cs.toList.take (l.base + i' * l.sz + len * i.size) ++ news ++ cs.toList.drop (l.base + i' * l.sz + len * i.size + news.length)).toArray e0 _ hb
        have hsz2 : (cs.toList.take (l.base + i' * l.sz + len * i.size) ++ news ++ cs.toList.drop (l.base + i' * l.sz + len * i.size + news.length)).toArray.size = cs.size := by simp [hs']; omega
        have hget := splice_get cs.toList (l.base + i' * l.sz + len * i.size) news (by simp [hs']; omega)
        generalize hcur : (cs.toList.take (l.base + i' * l.sz + len * i.size) ++ news ++ cs.toList.drop (l.base + i' * l.sz + len * i.size + news.length)).toArray = cur at *
        have hget : ∀ k, cur[k]? = if l.base + i' * l.sz + len * i.size ≤ k ∧ k < l.base + i' * l.sz + len * i.size + news.length then news[k - (l.base + i' * l.sz + len * i.size)]? else cs.toList[k]? := fun k => by rw [← hcur, List.getElem?_toArray]; exact hget k
        obtain ⟨k1, k2⟩ := hH.pass hl tt (l1 := ⟨l.b, l.base + i' * l.sz, i.size⟩) (.inl rfl) (by simp [(Array.getElem?_eq_some_iff.1 hb).1]) (o := .rows i.size (rs.drop r0 ++ rows)) (fun x =>
          rows_cells (e := e0) hnew (by rw [hsz2, List.length_append, hnl, Nat.add_mul, hs']; omega) hall (fun k row j hk hj => by
            by_cases hkl : k < len
            · obtain rfl : r0 = i' := (hi'.resolve_right (by omega)).symm
              rw [List.getElem?_append_left (by omega), List.getElem?_drop] at hk
              have hri := (List.getElem?_eq_some_iff.1 hk).1
              have hmm := (mul_step (sz := i.size) hri (Nat.le_refl rs.length)).1
              have hmk := (mul_step (sz := i.size) hkl (Nat.le_refl len)).1
              have e2 : l.base + r0 * l.sz + k * i.size + j = l.base + (r0 + k) * i.size + j := by rw [hs', Nat.add_mul]; omega
              have hlt2 : l.base + (r0 + k) * i.size + j < cs.size := by omega
              have hrj : row[j]? = some (row[j]'(by have := hrr _ _ hk; omega)) := List.getElem?_eq_getElem _
              refine ⟨cs[l.base + (r0 + k) * i.size + j], ?_, h1' ((r0 + k) * i.size + j) _ (by omega) (by rw [← Nat.add_assoc]; exact Array.getElem?_eq_getElem hlt2), fun a ha => (hh _ row j a _ hk ha (Array.getElem?_eq_getElem hlt2)).ext (Nat.le_refl _) x⟩
              rw [e2, hget, if_neg (by rw [hs', Nat.add_mul]; omega), Array.getElem?_toList]
              exact Array.getElem?_eq_getElem hlt2
            · rw [List.getElem?_append_right (by omega), hnl] at hk
              have hri := (List.getElem?_eq_some_iff.1 hk).1
              have hmm := (mul_step (sz := i.size) hri (Nat.le_refl rows.length)).1
              obtain ⟨v, v1, v3⟩ := hrows.at_ (k - len) row j hk hj
              have e2 : k * i.size = len * i.size + (k - len) * i.size := by rw [← Nat.add_mul]; congr 1; omega
              refine ⟨v, ?_, hrows.one v (List.mem_of_getElem? v1), fun a ha => (v3 a ha).ext (Nat.le_refl _) x⟩
              show cur[l.base + i' * l.sz + k * i.size + j]? = some v
              rw [hget, if_pos (by omega), show l.base + i' * l.sz + k * i.size + j - (l.base + i' * l.sz + len * i.size) = (k - len) * i.size + j by omega]
              exact v1))
        refine ⟨.slice (some ⟨l.b, l.base + i' * l.sz, none⟩) (len + rows.length) cap, _, .inl ?_, ?_, k1, k2⟩
        · rw [call_builtin _ _ _ _ _ ho]
          simp only [builtin, List.map_toArray, List.map_cons, List.map_nil, gv, Sem.run_bind, hrun, Result.andThen_ok]
          simp
        · refine .sl (by simp [hH.n]) rfl (fun l' hl' => ?_)
          simp only [Sx.bear, hH.n, if_true] at hl'
          cases hl'
          exact ⟨cap, 0, by simp, hfit, ⟨cur, e0, (0, 0), hnew, by rw [hsz2]; simp only [Nat.zero_add]; rw [hs']; omega⟩, .inl rfl⟩
      · -- in a new row
        have gx : VRel E (.sl id r0 len) (.slice (some ⟨l.b, l.base + i' * l.sz, none⟩) len cap) := by rw [gv] at g1; exact g1
        obtain ⟨olds, osrc, orows⟩ := src_of (P := P) (sz := i.size) (rows := rs.drop r0) hH gx (by simp only [srcRows, hid]; exact ⟨by omega, by rw [List.take_of_length_le (by omega)]⟩) (fun y hy => hall y (by simp [hy])) hsz
        rw [hnl] at osrc
        obtain ⟨c, hc, hrun⟩ := run_append_new (ty := o.type) he he' hi hz E.w osrc.run hsrc (by omega) h5 hib
        have both := orows.append hrows
        have tt : Turned E.w (E.w.drew.alloc (.cells (olds.toArray ++ news.toArray ++ Builtin.zeroCells z.cells (c - (len + rows.length))) e)) (fun b => b = l.b) := .push _ rfl rfl rfl rfl
        have hnew : (E.w.drew.alloc (.cells (olds.toArray ++ news.toArray ++ Builtin.zeroCells z.cells (c - (len + rows.length))) e)).heap[E.w.heap.size]? = some (.cells (olds.toArray ++ news.toArray ++ Builtin.zeroCells z.cells (c - (len + rows.length))) e (0, 0)) := by
          show (E.w.heap.push _)[E.w.heap.size]? = _
          simp
        have hbl := both.len
        have hsize : (olds.toArray ++ news.toArray ++ Builtin.zeroCells z.cells (c - (len + rows.length))).size = c * i.size := by
          rw [Array.size_append, zeroCells_size hzs]
          simp only [List.length_append, hnl] at hbl
          simp [hbl]
          rw [← Nat.add_mul]; congr 1; omega
        obtain ⟨k1, k2⟩ := hH.pass hl tt (l1 := ⟨E.w.heap.size, 0, i.size⟩) (.inr (Nat.le_refl _)) (by simp) (o := .rows i.size (rs.drop r0 ++ rows)) (fun x =>
          rows_cells (e := e) hnew (by rw [hsize, List.length_append, hnl]; simp; exact Nat.mul_le_mul_right _ hc) hall (fun k row j hk hj => by
            obtain ⟨v, v1, v3⟩ := both.at_ k row j hk hj
            have hlt := (List.getElem?_eq_some_iff.1 v1).1
            exact ⟨v, by rw [Array.getElem?_append_left (by simpa using hlt)]; simpa using v1, both.one v (List.mem_of_getElem? v1), fun a ha => (v3 a ha).ext (Nat.le_refl _) x⟩))
        refine ⟨.slice (some ⟨E.w.heap.size, 0, none⟩) (len + rows.length) c, _, .inl ?_, ?_, k1, k2⟩
        · rw [call_builtin _ _ _ _ _ ho]
          simp only [builtin, List.map_toArray, List.map_cons, List.map_nil, gv, Sem.run_bind, hrun, Result.andThen_ok]
          simp
        · refine .sl (by simp [hH.n]) rfl (fun l' hl' => ?_)
          simp only [Sx.bear, hH.n, if_true] at hl'
          cases hl'
          exact ⟨c, 0, by simp, hc, ⟨_, e, (0, 0), hnew, by rw [hsize]; simp⟩, .inl rfl⟩
end
end Go.Proofs.Ytnjpfoblmomnlaa.Sx
