/- That stores, literals of slices and append do what the small language says. No conditions: a kit of our own. -/
import Derived.Test.YteidimemlonjbaaSx8
namespace Go.Proofs.Yteidimemlonjbaa.Sx
open Go Go.RowKit
set_option linter.unusedVariables false
set_option linter.unusedSimpArgs false

theorem splice_get {α : Type} (row : List α) (off : Nat) (cs : List α) (h : off + cs.length ≤ row.length) (i : Nat) : (row.take off ++ cs ++ row.drop (off + cs.length))[i]? = if off ≤ i ∧ i < off + cs.length then cs[i - off]? else row[i]? := by
  rw [List.append_assoc]
  by_cases h1 : i < off
  · rw [List.getElem?_append_left (by simp; omega), List.getElem?_take, if_pos h1, if_neg (by omega)]
  · rw [List.getElem?_append_right (by simp; omega)]
    simp only [List.length_take, Nat.min_eq_left (show off ≤ row.length by omega)]
    by_cases h2 : i < off + cs.length
    · rw [List.getElem?_append_left (by omega), if_pos (by omega)]
    · rw [List.getElem?_append_right (by omega), List.getElem?_drop, if_neg (by omega)]
      congr 1
      omega

theorem mul_step {i k n sz : Nat} (h : i < k) (hk : k ≤ n) : i * sz + sz ≤ k * sz ∧ k * sz ≤ n * sz := by
  rw [← Nat.succ_mul]
  exact ⟨Nat.mul_le_mul_right _ h, Nat.mul_le_mul_right _ hk⟩

section
variable {P : Program} {o : Oper} {r : Opd → AV} {H : List AObj}

theorem ok_st {t : TypeId} {x v : Operand} {y u : Opd} {n id i off sz : Nat} {rs : List (List AV)} {row : List AV} (ho : o.op = .store t x v) (hx : opdOk x y = true) (hv : opdOk v u = true) (ht : sizeIs P t n = true)
    (hy : r y = .ptr id i off) (hid : H[id]? = some (.rows sz rs)) (hi : rs[i]? = some row) (hn : (cellsL (r u)).length = n) (hp : (cellsL (r u)).all AV.plain = true) (hoff : off + n ≤ row.length) :
    OpOk P o r H (Is .any (H.set id (.rows sz (rs.set i (over row off (cellsL (r u))))))) :=
  .go fun E a hr hH => by
    have h := hr.at_ (x := x) (by simp [ho, Op.operands]) hx
    have h' := (hr.at_ (x := v) (by simp [ho, Op.operands]) hv).cells hp
    rw [hy] at h
    obtain ⟨l, hl, hpv, hor⟩ := h.ptr_inv hH hid (by simp)
    cases hor with
    | rows cs e hs hb hlen hrr h1 hh =>
      have hrow := hrr i row hi
      have hilt := (List.getElem?_eq_some_iff.1 hi).1
      have hm := (mul_step (sz := sz) hilt (Nat.le_refl rs.length)).1
      have hcl := h'.len
      generalize hws : (a.eval v).cells = ws at *
      have hfit : l.base + i * l.sz + off + 0 + ws.toList.length ≤ cs.size := by simp; subst hs; omega
      have hst := run_storeCells_at P l.b (l.base + i * l.sz + off) e ws.toList 0 cs E.w hb (by simpa using hfit) (fun v hv => by
        obtain ⟨j, hj⟩ := List.getElem?_of_mem hv
        exact h'.one j v (by simpa using hj))
      simp only [Nat.add_zero] at hst hfit
      have tt := Turned.row (cs' := (cs.toList.take (l.base + i * l.sz + off) ++ ws.toList ++ cs.toList.drop (l.base + i * l.sz + off + ws.toList.length)).toArray) hb (by simp at hfit ⊢; omega)
      obtain ⟨h2, h3⟩ := hH.write hl tt (o := .rows sz (rs.set i (over row off (cellsL (r u))))) (fun x => by
        refine .mk (e := e) hs (setRow_heap E.w l.b cs _ e _ hb) (by simp at hfit ⊢; omega) (fun k q hk => ?_) (fun k q j hk hj => ?_)
        · by_cases hki : i = k
          · subst hki
            rw [List.getElem?_set_self hilt] at hk
            cases hk
            rw [over_len _ _ _ (by omega)]
            exact hrow
          · rw [List.getElem?_set_ne hki] at hk
            exact hrr k q hk
        · have hkl : k < rs.length := by have := (List.getElem?_eq_some_iff.1 hk).1; simpa using this
          have hmk := (mul_step (sz := sz) hkl (Nat.le_refl rs.length)).1
          have hcell : cs[l.base + k * sz + j]? = some (cs[l.base + k * sz + j]'(by omega)) := Array.getElem?_eq_getElem (by omega)
          have hget := splice_get cs.toList (l.base + i * l.sz + off) ws.toList (by simp at hfit ⊢; omega) (l.base + k * sz + j)
          simp only [List.getElem?_toArray]
          rw [hget]
          by_cases hki : i = k
          · subst hki
            rw [List.getElem?_set_self hilt] at hk
            cases hk
            have hov := over_get row off (cellsL (r u)) (by omega) j
            subst hs
            by_cases hin : off ≤ j ∧ j < off + (cellsL (r u)).length
            · rw [if_pos (by simp; omega), show l.base + i * l.sz + j - (l.base + i * l.sz + off) = j - off by omega]
              obtain ⟨w, hw1, hw2, hw3⟩ := h'.get (j := j - off) (by omega)
              exact ⟨w, by simpa using hw1, hw2, fun a ha => (hw3 a (by rw [hov, if_pos hin] at ha; exact ha)).ext (Nat.le_refl _) x⟩
            · rw [if_neg (by simp; omega)]
              refine ⟨_, (by rw [Array.getElem?_toList]; exact hcell), h1 (i * l.sz + j) _ (by omega) (by rw [← Nat.add_assoc]; exact hcell), fun a ha => ?_⟩
              rw [hov, if_neg hin] at ha
              exact (hh i row j a _ hi ha hcell).ext (Nat.le_refl _) x
          · rw [List.getElem?_set_ne hki] at hk
            have hout : ¬ (l.base + i * l.sz + off ≤ l.base + k * sz + j ∧ l.base + k * sz + j < l.base + i * l.sz + off + ws.toList.length) := by
              subst hs
              have hwl : ws.toList.length = n := by simp; omega
              rcases Nat.lt_or_ge i k with hlt | hge
              · have := (mul_step (sz := l.sz) hlt (Nat.le_refl k)).1; omega
              · have := (mul_step (sz := l.sz) (show k < i by omega) (Nat.le_refl i)).1; omega
            rw [if_neg hout]
            refine ⟨_, (by rw [Array.getElem?_toList]; exact hcell), h1 (k * sz + j) _ (by omega) (by rw [← Nat.add_assoc]; exact hcell), fun a ha => ?_⟩
            exact (hh k q j a _ hk ha hcell).ext (Nat.le_refl _) x)
      refine ⟨undef, _, .inr ⟨?_, rfl⟩, .any _, h2, h3⟩
      have hne : ¬ (ws.size ≠ n) := by omega
      simp [execOp, ho, hpv, Instr.storeAt, Instr.sureAddr, storeVar, run_sizeOf ht, hws, show ws.size = n by omega, hst]

/-! ### literals of slices -/
def rowsIs (P : Program) (t : TypeId) (sz n : Nat) (ps : List (Nat × Operand)) (qs : List Opd) : Bool :=
  (match P.underlying t with
    | some (.slice e) => sizeIs P e sz && (match P.info? e with | some i => (match i.zero with | some v => v.cells.size == sz && v.cells.all Value.oneCell' | none => false) | none => false)
    | _ => false) && rowOk 0 ps qs && n == qs.length && decide (0 < sz) && decide (n * sz ≤ 16777216)

theorem rowOk_len : ∀ {k : Nat} {ps : List (Nat × Operand)} {qs : List Opd}, rowOk k ps qs = true → ps.length = qs.length
  | _, [], [], _ => rfl
  | k, (i, x) :: ps, y :: qs, h => by simp only [rowOk, Bool.and_eq_true] at h; simp [rowOk_len h.2]
  | _, [], _ :: _, h => by simp [rowOk] at h
  | _, (_, _) :: _, [], h => by simp [rowOk] at h
theorem rowOk_at : ∀ {k : Nat} {ps : List (Nat × Operand)} {qs : List Opd}, rowOk k ps qs = true → ∀ (j i : Nat) x y, ps[j]? = some (i, x) → qs[j]? = some y → i = k + j ∧ opdOk x y = true
  | k, (i, x) :: ps, y :: qs, h, 0, i', x', y', h1, h2 => by
    simp only [rowOk, Bool.and_eq_true] at h
    simp at h1 h2
    obtain ⟨rfl, rfl⟩ := h1
    subst h2
    exact ⟨by simpa using h.1.1, h.1.2⟩
  | k, (i, x) :: ps, y :: qs, h, j + 1, i', x', y', h1, h2 => by
    simp only [rowOk, Bool.and_eq_true] at h
    obtain ⟨h3, h4⟩ := rowOk_at h.2 j i' x' y' (by simpa using h1) (by simpa using h2)
    exact ⟨by omega, h4⟩
  | _, [], [], _, j, _, _, _, h1, _ => by simp at h1
  | _, [], _ :: _, h, _, _, _, _, _, _ => by simp [rowOk] at h
  | _, (_, _) :: _, [], h, _, _, _, _, _, _ => by simp [rowOk] at h

/-- What the parts of a row come to, cell by cell. -/
theorem fillv_get (sz : Nat) : ∀ (as : List AV) (k : Nat) (z : List AV), (∀ a ∈ as, (cellsL a).length = sz) → (k + as.length) * sz ≤ z.length → ∀ i j, i < as.length → j < sz →
    (fillv z ((as.zipIdx k).map fun p => (p.2 * sz, sz, p.1)))[(k + i) * sz + j]? = (as[i]?.bind fun a => (cellsL a)[j]?)
  | a :: as, k, z, hs, hl, i, j, hi, hj => by
    have ha := hs a (by simp)
    have hk : k * sz + sz ≤ z.length := by
      have := (mul_step (sz := sz) (show k < k + (a :: as).length by simp) (Nat.le_refl _)).1
      omega
    simp only [List.zipIdx_cons, List.map_cons, fillv]
    have hol := over_len z (k * sz) (cellsL a) (by omega)
    cases i with
    | zero =>
      have keep : ∀ (bs : List AV) (k' : Nat) (z' : List AV) (m : Nat), (∀ a ∈ bs, (cellsL a).length = sz) → (k' + bs.length) * sz ≤ z'.length → m < k' * sz → (fillv z' ((bs.zipIdx k').map fun p => (p.2 * sz, sz, p.1)))[m]? = z'[m]? := by
        intro bs
        induction bs with
        | nil => intro k' z' m _ _ _; rfl
        | cons b bs ih =>
          intro k' z' m hb hl' hm
          have hbl := hb b (by simp)
          have hk' : k' * sz + sz ≤ z'.length := by
            have := (mul_step (sz := sz) (show k' < k' + (b :: bs).length by simp) (Nat.le_refl _)).1
            omega
          simp only [List.zipIdx_cons, List.map_cons, fillv]
          rw [ih (k' + 1) _ m (fun a ha => hb a (by simp [ha])) (by rw [over_len _ _ _ (by omega)]; simpa [Nat.add_comm, Nat.add_left_comm, Nat.add_assoc] using hl') (by rw [Nat.succ_mul]; omega), over_get _ _ _ (by omega), if_neg (by omega)]
      rw [keep as (k + 1) _ _ (fun a ha => hs a (by simp [ha])) (by rw [hol]; simpa [Nat.add_comm, Nat.add_left_comm, Nat.add_assoc] using hl) (by rw [Nat.succ_mul]; simp; omega), over_get _ _ _ (by omega), if_pos (by simp; omega)]
      simp
    | succ i =>
      have ih := fillv_get sz as (k + 1) (over z (k * sz) (cellsL a)) (fun a ha => hs a (by simp [ha])) (by rw [hol]; simpa [Nat.add_comm, Nat.add_left_comm, Nat.add_assoc] using hl) i j (by simpa using hi) hj
      rw [show k + (i + 1) = k + 1 + i by omega, ih]
      simp
  | [], _, _, _, _, i, _, hi, _ => by simp at hi

theorem FillOk.rows (sz : Nat) : ∀ (as : List AV) (k : Nat) (z : List AV), (∀ a ∈ as, (cellsL a).length = sz ∧ (cellsL a).all AV.plain = true) → (k + as.length) * sz ≤ z.length → FillOk z ((as.zipIdx k).map fun p => (p.2 * sz, sz, p.1))
  | [], _, _, _, _ => trivial
  | a :: as, k, z, hs, hl => by
    have ha := hs a (by simp)
    have hk : k * sz + sz ≤ z.length := by
      have := (mul_step (sz := sz) (show k < k + (a :: as).length by simp) (Nat.le_refl _)).1
      omega
    have hol := over_len z (k * sz) (cellsL a) (by omega)
    refine ⟨ha.1, ha.2, hk, FillOk.rows sz as (k + 1) (over z (k * sz) (cellsL a)) (fun a ha => hs a (by simp [ha])) ?_⟩
    rw [hol]
    simpa [Nat.add_comm, Nat.add_left_comm, Nat.add_assoc] using hl
theorem fillv_len (sz : Nat) : ∀ (as : List AV) (k : Nat) (z : List AV), (∀ a ∈ as, (cellsL a).length = sz) → (k + as.length) * sz ≤ z.length → (fillv z ((as.zipIdx k).map fun p => (p.2 * sz, sz, p.1))).length = z.length
  | [], _, _, _, _ => rfl
  | a :: as, k, z, hs, hl => by
    have ha := hs a (by simp)
    have hk : k * sz + sz ≤ z.length := by
      have := (mul_step (sz := sz) (show k < k + (a :: as).length by simp) (Nat.le_refl _)).1
      omega
    have hol := over_len z (k * sz) (cellsL a) (by omega)
    simp only [List.zipIdx_cons, List.map_cons, fillv]
    rw [fillv_len sz as (k + 1) _ (fun a ha => hs a (by simp [ha])) (by rw [hol]; simpa [Nat.add_comm, Nat.add_left_comm, Nat.add_assoc] using hl), hol]

/-- A literal's run: a new block with its rows. -/
theorem run_rows {t : TypeId} {n sz : Nat} {ps : Array (Nat × Operand)} {qs : List Opd} {E : Env} {a : Act} (ho : o.op = .buildSlice t n ps) (hk : rowsIs P t sz n ps.toList qs = true) (hr : OpsRel E r a o)
    (hp : ∀ x ∈ qs.map fun p => cellsL (r p), x.length = sz ∧ x.all AV.plain = true) :
    ∃ e cs, (execOp a.eval o).run P E.w = .ok (.value (.slice (some ⟨E.w.heap.size, 0, none⟩) qs.length qs.length)) (E.w.alloc (.cells cs e)) ∧ cs.size = qs.length * sz ∧
      ∀ (i : Nat) (row : List AV) (j : Nat), (qs.map fun p => cellsL (r p))[i]? = some row → j < sz → ∃ v, cs[i * sz + j]? = some v ∧ v.oneCell' = true ∧ ∀ a, row[j]? = some a → VRel E a v := by
  simp only [rowsIs, Bool.and_eq_true, decide_eq_true_eq] at hk
  obtain ⟨⟨⟨⟨hk, hrow⟩, hn⟩, hsz⟩, hbig⟩ := hk
  have hn : n = qs.length := by simpa using hn
  subst hn
  split at hk
  · rename_i e he
    simp only [Bool.and_eq_true] at hk
    obtain ⟨hes, hk⟩ := hk
    split at hk
    · rename_i i hi
      split at hk
      · rename_i zv hzv
        simp only [Bool.and_eq_true, beq_iff_eq] at hk
        obtain ⟨hzs, hz1⟩ := hk
        have mem : ∀ (j i : Nat) x, ps.toList[j]? = some (i, x) → x ∈ o.op.operands := fun j i x h => by
          simp only [ho, Op.operands]
          simp
          exact ⟨i, by simpa using Array.mem_of_getElem? (by simpa using h)⟩
        have hall : ∀ a ∈ qs.map r, (cellsL a).length = sz ∧ (cellsL a).all AV.plain = true := fun a ha => by
          obtain ⟨q, hq, rfl⟩ := List.mem_map.1 ha
          exact hp _ (List.mem_map.2 ⟨q, hq, rfl⟩)
        have hzone : ∀ (c : Array Value), c = (if qs.length * sz = 0 then #[] else zv.cells) → CellsRel E (List.replicate (qs.length * sz) .any) ((Array.range (qs.length * sz)).map fun j => c[j % c.size]!) := fun c hc => by
          refine ⟨by simp, fun i v hv => ?_, fun i a v ha hv => ?_⟩
          · have hlt := (Array.getElem?_eq_some_iff.1 hv).1
            simp at hlt
            have hne : ¬ qs.length * sz = 0 := by omega
            rw [if_neg hne] at hc
            subst hc
            simp [hlt] at hv
            have hmod : i % zv.cells.size < zv.cells.size := Nat.mod_lt _ (by omega)
            rw [getElem!_pos zv.cells _ hmod] at hv
            subst hv
            exact Array.all_eq_true_iff_forall_mem.1 hz1 _ (Array.getElem_mem hmod)
          · rw [List.getElem?_replicate] at ha
            split at ha
            · cases ha; exact .any _
            · cases ha
        have hqs : ((qs.map r).zipIdx 0).map (fun p => (p.2 * sz, sz, p.1)) = ((qs.map r).zipIdx 0).map (fun p => (p.2 * sz, sz, p.1)) := rfl
        have hfill : ∀ c, c = (if qs.length * sz = 0 then #[] else zv.cells) → ∃ c', Instr.fill (fun i => some (i * sz, sz)) ((Array.range (qs.length * sz)).map fun j => c[j % c.size]!) (ps.toList.map fun p => (p.1, a.eval p.2)) = some c' ∧
            CellsRel E (fillv (List.replicate (qs.length * sz) .any) (((qs.map r).zipIdx 0).map (fun p => (p.2 * sz, sz, p.1)))) c' := fun c hc => by
          refine fill_run _ _ _ _ _ (hzone c hc) (by simp [rowOk_len hrow]) (fun j i v off sz' a' h1 h2 => ?_) (FillOk.rows sz _ 0 _ hall (by simp))
          rw [List.getElem?_map] at h1 h2
          cases e1 : ps.toList[j]? with
          | none => simp [e1] at h1
          | some p =>
            obtain ⟨pi, px⟩ := p
            cases e2 : qs[j]? with
            | none => simp [e2, List.getElem?_zipIdx] at h2
            | some q =>
              simp [e1] at h1
              simp [e2, List.getElem?_zipIdx] at h2
              obtain ⟨rfl, rfl⟩ := h1
              obtain ⟨rfl, rfl, rfl⟩ := h2
              obtain ⟨h3, h4⟩ := rowOk_at hrow j pi px q e1 e2
              simp at h3
              subst h3
              exact ⟨rfl, hr.at_ (mem _ _ _ e1) h4⟩
        obtain ⟨c', hc1, hc2⟩ := hfill _ rfl
        have hcl := hc2.len
        rw [fillv_len sz _ 0 _ (fun a ha => (hall a ha).1) (by simp)] at hcl
        refine ⟨e, c', ?_, by simpa using hcl, fun i row j hi' hj => ?_⟩
        · have hlim : ¬ (qs.length * sz > 2 ^ 24) := by simp; omega
          by_cases h0 : qs.length * sz = 0
          · rw [if_pos h0] at hc1
            simp only [h0] at hc1 hlim
            simp [execOp, ho, Instr.buildSlice, run_underlying he, run_sizeOf hes, h0, newRow]
            have e0 : ∀ f : Nat → Value, (Array.range 0).map f = #[] := fun f => by rw [show Array.range 0 = #[] from rfl]; simp
            rw [e0] at hc1 ⊢
            rw [hc1]
            simp
          · rw [if_neg h0] at hc1
            simp [execOp, ho, Instr.buildSlice, run_underlying he, run_sizeOf hes, h0, newRow, zeroValue, typeInfo, hi, hzv]
            rw [if_neg (by omega), hc1]
            simp
        · have hlt : i < qs.length := by have := (List.getElem?_eq_some_iff.1 hi').1; simpa using this
          have hget := fillv_get sz (qs.map r) 0 (List.replicate (qs.length * sz) .any) (fun a ha => (hall a ha).1) (by simp) i j (by simpa using hlt) hj
          obtain ⟨v, hv1, hv2, hv3⟩ := hc2.get (j := i * sz + j) (by
            rw [fillv_len sz _ 0 _ (fun a ha => (hall a ha).1) (by simp)]
            have := (mul_step (sz := sz) hlt (Nat.le_refl qs.length)).1
            simp; omega)
          refine ⟨v, hv1, hv2, fun b hb => hv3 b ?_⟩
          simp only [Nat.zero_add] at hget
          rw [hget]
          cases hq : qs[i]? with
          | none => simp [hq] at hi'
          | some q => simp [hq] at hi' ⊢; subst hi'; exact hb
      · cases hk
    · cases hk
  · cases hk

theorem rows_cells {E : Env} {sz : Nat} {rows : List (List AV)} {cs : Array Value} {b base : Nat} {e : TypeId} (hb : E.w.heap[b]? = some (.cells cs e (0, 0))) (hl : base + rows.length * sz ≤ cs.size) (hr : ∀ x ∈ rows, x.length = sz)
    (h : ∀ (i : Nat) (row : List AV) (j : Nat), rows[i]? = some row → j < sz → ∃ v, cs[base + i * sz + j]? = some v ∧ v.oneCell' = true ∧ ∀ a, row[j]? = some a → VRel E a v) : ORel E (.rows sz rows) ⟨b, base, sz⟩ :=
  .mk (e := e) rfl hb hl (fun i r hi => hr r (List.mem_of_getElem? hi)) h

theorem ok_rowOwn {t : TypeId} {n sz : Nat} {ps : Array (Nat × Operand)} {qs : List Opd} (ho : o.op = .buildSlice t n ps) (hk : rowsIs P t sz n ps.toList qs = true) (hp : ∀ x ∈ qs.map fun p => cellsL (r p), x.length = sz ∧ x.all AV.plain = true) :
    OpOk P o r H (Is (.sl H.length 0 qs.length) (H ++ [.rows sz (qs.map fun p => cellsL (r p))])) :=
  .go fun E a hr hH => by
    obtain ⟨e, cs, h1, h2, h3⟩ := run_rows ho hk hr hp
    have t : Turned E.w (E.w.alloc (.cells cs e)) (fun _ => False) := .push _ rfl rfl rfl rfl
    have hnew : (E.w.alloc (.cells cs e)).heap[E.w.heap.size]? = some (.cells cs e (0, 0)) := by
      show (E.w.heap.push _)[E.w.heap.size]? = _
      simp
    obtain ⟨g1, g2⟩ := hH.bear t (l := ⟨E.w.heap.size, 0, sz⟩) (Nat.le_refl _) (by simp) (o := .rows sz (qs.map fun p => cellsL (r p))) (fun x =>
      rows_cells (e := e) hnew (by simp [h2]) (fun y hy => (hp y hy).1) (fun i row j hi hj => by
        obtain ⟨v, v1, v2, v3⟩ := h3 i row j hi hj
        exact ⟨v, by simpa using v1, v2, fun a ha => (v3 a ha).ext (Nat.le_refl _) x⟩))
    refine ⟨_, _, .inl h1, ?_, g1, g2⟩
    refine .sl (by simp [hH.n]) rfl (fun l hl => ?_)
    simp only [Sx.bear, hH.n, if_true] at hl
    cases hl
    exact ⟨qs.length, by simp, Nat.le_refl _, cs, e, (0, 0), hnew, by simp [h2]⟩

theorem ok_rowView {t : TypeId} {n sz : Nat} {ps : Array (Nat × Operand)} {qs : List Opd} (ho : o.op = .buildSlice t n ps) (hk : rowsIs P t sz n ps.toList qs = true) (hp : ∀ x ∈ qs.map fun p => cellsL (r p), x.length = sz ∧ x.all AV.plain = true) :
    OpOk P o r H (Is (.view (qs.map fun p => cellsL (r p))) H) :=
  .go fun E a hr hH => by
    obtain ⟨e, cs, h1, h2, h3⟩ := run_rows ho hk hr hp
    have t : Turned E.w (E.w.alloc (.cells cs e)) (fun _ => False) := .push _ rfl rfl rfl rfl
    have hnew : (E.w.alloc (.cells cs e)).heap[E.w.heap.size]? = some (.cells cs e (0, 0)) := by
      show (E.w.heap.push _)[E.w.heap.size]? = _
      simp
    obtain ⟨g1, g2⟩ := hH.grow t
    refine ⟨_, _, .inl h1, ?_, g1, g2⟩
    have hlen : qs.length = (qs.map fun p => cellsL (r p)).length := by simp
    rw [hlen]
    refine .view (sz := sz) (fun i j => cs.getD (i * sz + j) undef) ⟨by simp, fun id l hl => ?_, fun hx => ?_⟩ (Nat.le_refl _) (fun i r hi => (hp r (List.mem_of_getElem? hi)).1) (fun i j hi hj => ?_) (fun i j hi hj => ?_) (fun i row j a hi hj => ?_)
    · have := hH.own_lt hl; simp at this ⊢; omega
    · have := hH.xlt _ hx; simp at this
    · have hi' : (qs.map fun p => cellsL (r p))[i]? = some _ := List.getElem?_eq_getElem hi
      obtain ⟨v, v1, v2, v3⟩ := h3 i _ j hi' hj
      show (E.w.alloc (.cells cs e)).cell? ⟨E.w.heap.size, 0 + i * sz + j, none⟩ = _
      rw [World.cell?_alloc_new]
      simp [v1, Array.getD_eq_getD_getElem?]
    · have hi' : (qs.map fun p => cellsL (r p))[i]? = some _ := List.getElem?_eq_getElem hi
      obtain ⟨v, v1, v2, v3⟩ := h3 i _ j hi' hj
      simpa [Array.getD_eq_getD_getElem?, v1] using v2
    · have hlt := (List.getElem?_eq_some_iff.1 hj).1
      obtain ⟨v, v1, v2, v3⟩ := h3 i row j hi (by have := (hp row (List.mem_of_getElem? hi)).1; omega)
      simpa [Array.getD_eq_getD_getElem?, v1] using (v3 a hj).ext (Nat.le_refl _) g2
end
end Go.Proofs.Yteidimemlonjbaa.Sx
