/- Package state: states that are alike, copies, what fits, is in order and within its bounds; the shape, the start; what the laws of state take as given. No conditions: a kit of our own. -/
import Derived.Test.YtnckibgcjgeekaaGreatFnC4
import Derived.Test.YtnckibgcjgeekaaGreatFnC3
namespace Go.Proofs.YtnckibgcjgeekaaGreat.Sx
open Go Go.RowKit
set_option linter.unusedVariables false
set_option linter.unusedSimpArgs false

/-- Lists in a state aren't too long. -/
structure okS (s : Stt) : Prop where
  t : s.Tasks.length ≤ 1073741824
  c : s.Crew.length ≤ 1073741824
  u : s.Units.length ≤ 1073741824
  l : s.Leases.length ≤ 1073741824
  k : s.Locks.length ≤ 1073741824
  ts : okTs s.Tasks
  ls : okLs s.Leases
  ks : okKs s.Locks
theorem up {n : Nat} (h : n ≤ 1073741824) : n ≤ 9223372036854775807 := Nat.le_trans h (by decide)
def cStateSame : Ctr := C2 (fun x y : Stt => okS x) fun x y => .bool (decide (x = y))
/-- Whether there is not too much. -/
def fitS (r : Rul) (s : Stt) : Bool := decide ((s.Tasks.length : Int) ≤ r.Tasks) && decide ((s.Crew.length : Int) ≤ r.Crew) && decide ((s.Units.length : Int) ≤ r.Units) && decide ((s.Leases.length : Int) ≤ r.Crew) && decide (s.Locks.length = r.Aisles.length) &&
  s.Tasks.all p_fits_1 && s.Leases.all (p_fits_2 r) && s.Locks.all p_fits_3
theorem det_state_fits (r : Rul) (s : Stt) (h : okS s) : Det Tryz.prog 55 [en r, en s] [] (.bool (fitS r s)) [] := by
  refine det_finF mixed0 (knows_cons knownE_fits_1 (knows_cons knownE_fits_2 (knows_cons knownE_fits_3 knows_nil))) ok_state_fits 1 (by simp) ?_
  simp [ic_state_fits, rs_state_fits, cE_fits_1, cE_fits_2, cE_fits_3, up h.t, up h.l, up h.k, fitS]
def cFits : Ctr := C2 (fun (r : Rul) (s : Stt) => okS s) fun r s => .bool (fitS r s)
theorem known_Fits : Known Tryz.prog 55 cFits := known_C2 (fun x y h => det_state_fits x y h) fun x y => flat_bool _
/-- Whether all is in order. -/
def ordS (r : Rul) (s : Stt) : Bool := rises (s.Tasks.map fun x => x.Sp.ID) && rises (s.Crew.map fun x => x.ID) && rises (s.Units.map fun x => x.ID) && rises (s.Leases.map fun x => x.Token) && s.Tasks.all p_orders_3 && s.Leases.all p_orders_4 && decide ((s.Locks.map fun x => x.ID) = r.Aisles.map fun x => x.ID)
theorem det_state_orders (r : Rul) (s : Stt) (h : okS s) (hr : r.Aisles.length ≤ 1073741824) : Det Tryz.prog 56 [en r, en s] [] (.bool (ordS r s)) [] := by
  refine det_finF mixed0 (knows_cons known_num_orders_1 (knows_cons known_IdRight (knows_cons known_num_hand (knows_cons known_num_orders_2 (knows_cons knownE_orders_3 (knows_cons knownE_orders_4 (knows_cons known_num_orders_5 (knows_cons known_num_orders_6 (knows_cons known_Equal knows_nil))))))))) ok_state_orders 1 (by simp) ?_
  simp [-List.map_map, ic_state_orders, rs_state_orders, c_num_orders_1, cIdRight, c_num_hand, c_num_orders_2, cE_orders_3, cE_orders_4, c_num_orders_5, c_num_orders_6, cInts, up h.t, up h.c, up h.u, up h.l, up h.k, h.t, h.c, h.u, h.l, h.k, h.ts, h.ls, h.ks, hr, up hr, ordS, vcLoose, heapsOf]
def cOrders : Ctr := C2 (fun (r : Rul) (s : Stt) => okS s ∧ r.Aisles.length ≤ 1073741824) fun r s => .bool (ordS r s)
theorem known_Orders : Known Tryz.prog 56 cOrders := known_C2 (fun x y h => det_state_orders x y h.1 h.2) fun x y => flat_bool _
theorem det_within_2 (n : Int) : Det Tryz.prog 116 [en n] [] (.bool (decide (n ≠ 0))) [] := by
  refine det_finF mixed0 knows_nil ok_state_within_2 1 (by simp) ?_
  simp [ic_state_within_2, rs_state_within_2]
def c_within_2 : Ctr := C1 (fun n : Int => True) fun n => .bool (decide (n ≠ 0))
theorem known_within_2 : Known Tryz.prog 116 c_within_2 := known_C1 (fun n _ => det_within_2 n) fun n => flat_bool _
theorem det_IndexInt (l : List Int) (q : FnC 116) (hl : l.length ≤ 9223372036854775807) : Det Tryz.prog 138 [en l, en q] [] (.int .i64 (fidx (fun n => decide (n ≠ 0)) l 0)) [] := by
  refine det_finF mixed0 (knows_cons known_within_2 knows_nil) ok_slices_IndexFunc_int_int 1 (by simp) ?_
  simp [ic_slices_IndexFunc_int_int, rs_slices_IndexFunc_int_int]
  refine LoopC.scanB (0 : Int) l (fun i (_ : Unit) => ⟨[(0, .view (l.map Cel.c)), (1, .fn 116 [] []), (7, .int .i64 l.length), (8, .int .i64 i)], []⟩) (fun i _ r => fidx (fun n => !decide (n = 0)) l 0 = fidx (fun n => !decide (n = 0)) r i) () (by simp) (by simp) rfl (fun i a r b hi ha hd hG => ?_) fun b hG => ?_
  · rw [hG]
    simp [hi, ha, c_within_2, fidx, vcLoose]
    by_cases he : a = 0
    · simp [he]; omega
    · simp [he]
  · rw [hG]
    simp [fidx]
def cIndexInt : Ctr := C2 (fun (l : List Int) (q : FnC 116) => l.length ≤ 9223372036854775807) fun l q => .int .i64 (fidx (fun n => decide (n ≠ 0)) l 0)
theorem known_IndexInt : Known Tryz.prog 138 cIndexInt := known_C2 (fun l q h => det_IndexInt l q h) fun l q => flat_int _ _
theorem fidx_spec {α : Type} (p : α → Bool) : ∀ (l : List α) (s : Int), (fidx p l s = -1 ∧ ∀ x ∈ l, p x = false) ∨ ∃ k : Nat, fidx p l s = s + k ∧ k < l.length ∧ (∀ x ∈ l.take k, p x = false) ∧ ∀ d, p (nth l k d) = true
  | [], s => .inl ⟨rfl, fun x h => by simp at h⟩
  | x :: r, s => by
    simp only [fidx]
    by_cases hx : p x = true
    · right
      refine ⟨0, by simp [hx], by simp, by simp, fun d => by simpa [nth] using hx⟩
    · rcases fidx_spec p r (s + 1) with ⟨h1, h2⟩ | ⟨k, h1, h2, h3, h4⟩
      · left
        refine ⟨by simp [hx, h1], fun y hy => ?_⟩
        rcases List.mem_cons.1 hy with rfl | hy
        · simpa using hx
        · exact h2 y hy
      · right
        refine ⟨k + 1, by simp [hx, h1]; omega, by simp; omega, fun y hy => ?_, fun d => by simpa [nth] using h4 d⟩
        simp at hy
        rcases hy with rfl | hy
        · simpa using hx
        · exact h3 y hy
/-- How many are zero. -/
def nzero (l : List Int) : Nat := l.countP fun n => decide (n = 0)
theorem all_zero {l : List Int} (h : ∀ x ∈ l, x = 0) : l = List.replicate l.length 0 := List.eq_replicate_of_mem h
theorem nzero_le (l : List Int) : nzero l ≤ l.length := List.countP_le_length
theorem nzero_all {l : List Int} (h : ∀ x ∈ l, x = 0) : nzero l = l.length := by
  unfold nzero; rw [List.countP_eq_length]; intro x hx; simp [h x hx]
theorem nzero_succ {l : List Int} {j : Nat} (h : j < l.length) : nzero (l.take (j + 1)) = nzero (l.take j) + if nth l j 0 = 0 then 1 else 0 := by
  rw [nth_get h, ← List.take_append_getElem h]
  simp only [nzero, List.countP_append, List.countP_singleton, decide_eq_true_eq]
structure DelInv (l : List Int) (a : (Nat × Nat) × List Int) : Prop where
  len : a.2.length = l.length
  i : a.1.1 = nzero (l.take a.1.2)
  lt : a.1.1 < a.1.2
  le : a.1.2 ≤ l.length
  pre : a.2.take a.1.1 = List.replicate a.1.1 0
  suf : a.2.drop a.1.2 = l.drop a.1.2
theorem det_DeleteOwn (l : List Int) (q : FnC 116) (hl : l.length ≤ 1073741824) (hne : l ≠ []) :
    Det Tryz.prog 114 [.sl 0 0 l.length, en q] [.rows 1 (l.map Cel.c)] (.sl 0 0 (nzero l)) [.rows 1 (List.replicate l.length [.int .i64 0])] := by
  refine det_fin0 mixed0 (knows_cons known_IndexInt (knows_cons known_within_2 knows_nil)) ok_slices_DeleteFunc_int_int (by simp) ?_
  have hl' := up hl
  simp [ic_slices_DeleteFunc_int_int, rs_slices_DeleteFunc_int_int, cIndexInt, hl']
  rcases fidx_spec (fun n : Int => !decide (n = 0)) l 0 with ⟨h1, h2⟩ | ⟨k, h1, h2, h3, h4⟩
  · have hz : ∀ x ∈ l, x = 0 := fun x hx => by simpa using h2 x hx
    have e := all_zero hz
    simp [h1, nzero_all hz]
    rw [e]
    simp
  · have hz : ∀ x ∈ l.take k, x = 0 := fun x hx => by simpa using h3 x hx
    have hk : (l.take k).length = k := by simp; omega
    have hn : ¬ (k : Int) = -1 := by omega
    have h4' := h4 0
    simp [h1, hn]
    refine ⟨by omega, ?_⟩
    refine LoopC.gen (fun a : (Nat × Nat) × List Int => ⟨[(0, .sl 0 0 l.length), (1, .fn 116 [] []), (5, .int .i64 a.1.1), (6, .int .i64 a.1.2)], [.rows 1 (a.2.map Cel.c)]⟩) (DelInv l) (fun a => l.length - a.1.2) ((k, k + 1), l) (by simp) (by simp) ⟨rfl, ?_, by simp, by simp; omega, ?_, rfl⟩ ?_
    · simp only
      rw [nzero_succ h2, nzero_all hz, hk]
      simp at h4'
      simp [h4']
    · simp only
      have := all_zero hz
      rw [hk] at this
      exact this
    rintro ⟨⟨i, j⟩, M⟩ ⟨m1, m2, m3, m4, m5, m6⟩
    simp only at m1 m2 m3 m4 m5 m6
    by_cases hj : j < l.length
    · have hjM : j < M.length := by omega
      have ev : nth M j 0 = nth l j 0 := by
        rw [nth_get hjM, nth_get hj]
        have e1 := List.getElem_drop (xs := M) (i := j) (j := 0) (h := by simp; omega)
        have e2 := List.getElem_drop (xs := l) (i := j) (j := 0) (h := by simp; omega)
        simp only [Nat.add_zero] at e1 e2
        rw [← e1, ← e2]
        simp only [m6]
      have hiM : i < M.length := by omega
      have m6' : M.drop (j + 1) = l.drop (j + 1) := by rw [← List.drop_drop, ← List.drop_drop, m6]
      have hj1 : (j : Int) < 9223372036854775807 := by omega
      simp [hj, hjM, c_within_2, m1]
      refine ⟨fun h0 => ?_, fun h0 => ?_⟩
      · have h0 : nth M j 0 = 0 := of_decide_eq_true h0
        refine ⟨by omega, ⟨by omega, by rw [nth_c_nil hiM]; simp⟩, ⟨by omega, by omega⟩, ⟨by omega, by omega⟩, i + 1, j + 1, M.set i 0, ⟨⟨by simp, by simp⟩, .inl ?_⟩, ⟨by simpa using m1, ?_, ?_, ?_, ?_, ?_⟩, by omega⟩
        · rw [nth_c_nil hiM, h0]; simp [over]
        · simp only; rw [nzero_succ hj, ← m2, ← ev, h0]; simp
        · simp only; omega
        · simp only; omega
        · simp only
          rw [List.set_eq_take_append_cons_drop, if_pos hiM, m5, List.take_append]
          simp [List.replicate_succ']
        · simp only
          rw [List.drop_set_of_lt (by omega)]
          exact m6'
      · have h0 : nth M j 0 ≠ 0 := of_decide_eq_false h0
        refine ⟨⟨by omega, by omega⟩, i, j + 1, M, ⟨⟨rfl, by simp⟩, .inl rfl⟩, ⟨m1, ?_, ?_, ?_, m5, m6'⟩, by omega⟩
        · simp only; rw [nzero_succ hj, ← m2, ← ev, if_neg h0]; omega
        · simp only; omega
        · simp only; omega
    · have hje : j = l.length := by omega
      subst hje
      rw [List.take_length] at m2
      have e : i + (l.length - i) = M.length := by omega
      have e2 : i + (l.length - i) = l.length := by omega
      simp
      refine ⟨⟨.inr m3, by omega⟩, by omega, by omega, m2, ?_⟩
      rw [e, ← List.map_take, m5, List.map_replicate, List.drop_of_length_le (by simp)]
      simp [List.replicate_append_replicate, e2]
theorem seenO_closed {H : List AObj} {R : Nat → Nat → Prop} {sz : Nat} {rs : List (List AV)} (h : allR Closed rs) : SeenO H R (.rows sz rs) (.rows sz rs) := .rows rfl (fun i r r' h1 h2 => by rw [h1] at h2; cases h2; rfl) fun i r r' j a b h1 h2 h3 h4 => by
  rw [h1] at h2; cases h2
  rw [h3] at h4; cases h4
  exact Closed.seen (h r (List.mem_of_getElem? h1) a (List.mem_of_getElem? h3)) _ _
/-- slices.DeleteFunc on a slice of one's own, all of it. -/
def cDelete : Ctr := ⟨fun a H => match a with
  | [.view [], q] => okA (FnC 116) [] q
  | [.sl id r l, q] => (r = 0 ∧ 0 < l) ∧ okA (FnC 116) [] q ∧ ∃ k : List Int, l = k.length ∧ H[id]? = some (.rows 1 (k.map Cel.c)) ∧ k.length ≤ 1073741824
  | _ => False, fun a H => match a with
  | [.view [], q] => .view []
  | [.sl id r l, q] => .sl id 0 (nzero ((rowsOf H id).map (Cel.u [])))
  | _ => .any, fun a H => match a with
  | [.sl id r l, q] => H.set id (.rows 1 (List.replicate l [.int .i64 0]))
  | _ => H⟩
theorem det_Delete0 (q : FnC 116) : Det Tryz.prog 114 [en ([] : List Int), en q] [] (en ([] : List Int)) [] := by
  refine det_finF mixed0 (knows_cons known_IndexInt (knows_cons known_within_2 knows_nil)) ok_slices_DeleteFunc_int_int 2 (by simp) ?_
  simp [ic_slices_DeleteFunc_int_int, rs_slices_DeleteFunc_int_int, cIndexInt, fidx]
theorem known_Delete : Known Tryz.prog 114 cDelete := fun args H hp => by
  match args, hp with
  | [.view [], q], hp =>
    have hd := (det_Delete0 ⟨⟩).pure (fun a ha => by
      rcases List.mem_cons.1 ha with rfl | ha
      · exact closed_en _
      · rcases List.mem_cons.1 ha with rfl | ha
        · exact closed_en _
        · cases ha) (closed_en _) H
    obtain ⟨h1, h2⟩ := hp
    have : q = .fn 116 [] [] := by
      cases q <;> first | (simp [isAgg] at h1; done) | skip
      all_goals (have h3 : cellsL _ = [_] := h2; simp [cellsL] at h3; try simp [h3])
    subst this
    simpa [cDelete] using hd
  | [.sl id r l, q], hp =>
    obtain ⟨⟨rfl, h0⟩, hq, k, rfl, ho, hk⟩ := hp
    have hr : rowsOf H id = k.map Cel.c := by simp [rowsOf, ho]
    have hlt : id < H.length := (List.getElem?_eq_some_iff.1 ho).1
    have hne : k ≠ [] := by intro e; simp [e] at h0
    have hd := det_DeleteOwn k ⟨⟩ hk hne
    have nm : names [id] H.length 0 = [id] := by simp [names]
    simp only [cDelete, hr, List.map_map]
    have hu : nzero (k.map (Cel.u [] ∘ Cel.c)) = nzero k := by
      rw [show k.map (Cel.u (α := Int) [] ∘ Cel.c) = k from map_self fun x _ => Cel.u_c [] x]
    rw [hu]
    refine hd.frame (ids := [id]) (H := H) ⟨rfl, fun i j k hi hj => ?_, fun j i h => ?_, fun j i o' hj ho' _ => ?_, by simp, by simp, fun j i o' hj ho' hne' => ?_, fun i hi hn => ?_⟩ (each_cons (.sl ?_) (each_cons ((okA_seen hq).mono (fun _ _ h => h.elim) (.inl rfl)) each_nil)) (.sl ?_)
    · match i, j with
      | 0, 0 => rfl
      | i + 1, _ => simp at hi
      | 0, j + 1 => simp at hj
    · match j with
      | 0 => simp at h; omega
      | j + 1 => simp at h
    · match j with
      | 0 =>
        simp at hj ho'; subst hj; subst ho'
        exact ⟨_, ho, seenO_closed (fun row hr a ha => by
          obtain ⟨x, _, rfl⟩ := List.mem_map.1 hr
          exact Cel.closed x a ha)⟩
      | j + 1 => simp at hj
    · simp only [List.length_cons, List.length_nil, Nat.sub_self, nm] at hj ⊢
      match j with
      | 0 =>
        simp at hj; subst hj
        rw [List.getElem?_set_self hlt] at ho'
        simp at ho'; subst ho'
        exact ⟨_, rfl, seenO_closed (fun row hr a ha => by
          have := List.eq_of_mem_replicate hr
          subst this
          simp at ha; subst ha
          exact .int _ _)⟩
      | j + 1 => simp at hj
    · have : i ≠ id := fun e => hn 0 (by simp [e])
      rw [List.getElem?_set_ne (by omega)]
    · simp [byG]
    · simp only [List.length_cons, List.length_nil, Nat.sub_self, nm]
      simp [byN]
@[simp] theorem cDelete_pre0 (q : AV) (H : List AObj) : cDelete.pre [.view [], q] H = okA (FnC 116) [] q := rfl
@[simp] theorem cDelete_val0 (q : AV) (H : List AObj) : cDelete.val [.view [], q] H = .view [] := rfl
@[simp] theorem cDelete_hp0 (q : AV) (H : List AObj) : cDelete.hp [.view [], q] H = H := rfl
@[simp] theorem cDelete_pre1 (id r l : Nat) (q : AV) (H : List AObj) : cDelete.pre [.sl id r l, q] H = ((r = 0 ∧ 0 < l) ∧ okA (FnC 116) [] q ∧ ∃ k : List Int, l = k.length ∧ H[id]? = some (.rows 1 (k.map Cel.c)) ∧ k.length ≤ 1073741824) := rfl
@[simp] theorem cDelete_val1 (id r l : Nat) (q : AV) (H : List AObj) : cDelete.val [.sl id r l, q] H = .sl id 0 (nzero ((rowsOf H id).map (Cel.u []))) := rfl
@[simp] theorem cDelete_hp1 (id r l : Nat) (q : AV) (H : List AObj) : cDelete.hp [.sl id r l, q] H = H.set id (.rows 1 (List.replicate l [.int .i64 0])) := rfl
/-- How many tasks are yet to be numbered. -/
def laterS (r : Rul) (s : Stt) : Int := nzero (s.Tasks.map fun x => x.Seq) + r.Tasks - s.Tasks.length
def Qid : CFrom := ⟨1, 999⟩
def Qtick : CFrom := ⟨0, 2147483647⟩
def Qtoken : CFrom := ⟨1, 2147483647⟩
/-- Whether all is within its bounds. -/
def witS (r : Rul) (s : Stt) : Bool := inR r.Start 2147483647 s.Now && inR 0 (2147483647 - laterS r s) s.Seq && inR 0 2147483647 s.Token && s.Tasks.all (p_within_3 s r Qid) && (s.Crew.map fun x => x.ID).all (inR 1 999) && (s.Units.map fun x => x.ID).all (inR 1 999) && s.Leases.all (p_within_4 s Qid) && s.Locks.all (p_within_5 Qtick Qtoken)
theorem nzero_map_le (s : Stt) : nzero (s.Tasks.map fun x => x.Seq) ≤ s.Tasks.length := by
  have := nzero_le (s.Tasks.map fun x => x.Seq)
  simpa using this
set_option maxHeartbeats 4000000 in
set_option maxRecDepth 20000 in
theorem det_state_within (r : Rul) (s : Stt) (h : okS s) (hr : 1 ≤ r.Tasks ∧ r.Tasks ≤ 64) : Det Tryz.prog 57 [en r, en s] [] (.bool (witS r s)) [] := by
  refine det_finF mixed0 (knows_cons known_From (knows_cons known_num_within_1 (knows_cons known_Delete (knows_cons known_From1 (knows_cons knownE_within_3 (knows_cons known_num_hand (knows_cons known_EveryI (knows_cons knownE_within_4 (knows_cons knownE_within_5 knows_nil))))))))) ok_state_within 1 (by simp) ?_
  have hz := nzero_map_le s
  have ht := h.t
  have hc := h.c
  have hu := h.u
  have u1 := up h.c
  have u2 := up h.u
  have u3 := up h.l
  have u4 := up h.k
  have u5 := up h.t
  have v1 := h.ts
  have v2 := h.ls
  have v3 := h.ks
  by_cases hT : s.Tasks = []
  · have hq : laterS r s = r.Tasks := by simp [laterS, hT, nzero]
    simp [-List.map_map, -List.all_map, ic_state_within, rs_state_within, cFrom, c_num_within_1, hT, cFrom1, cE_within_3, c_num_hand, cEveryI, cE_within_4, cE_within_5, vcLoose, heapsOf, effO, u1, u2, u3, u4, v2, v3, hc, hu, okTs, Qid, Qtick, Qtoken, witS, hq]
    exact ⟨by omega, fun _ => by omega, rfl⟩
  · simp [-List.map_map, -List.all_map, ic_state_within, rs_state_within, cFrom, c_num_within_1, hT, ow_ne, bob_ne, cFrom1, cE_within_3, c_num_hand, cEveryI, cE_within_4, cE_within_5, vcLoose, heapsOf, effO, u1, u2, u3, u4, u5, v1, v2, v3, hc, hu, Qid, Qtick, Qtoken, witS]
    have hpos : 0 < s.Tasks.length := List.length_pos_iff.2 hT
    exact ⟨ht, ⟨hpos, _, by simp, rfl, by simpa using ht⟩, by omega, by omega, fun _ => by omega, rfl⟩
def cWithin : Ctr := C2 (fun (r : Rul) (s : Stt) => okS s ∧ 1 ≤ r.Tasks ∧ r.Tasks ≤ 64) fun r s => .bool (witS r s)
theorem known_Within : Known Tryz.prog 57 cWithin := known_C2 (fun x y h => det_state_within x y h.1 h.2) fun x y => flat_bool _

/-- What is wrong first with a state's shape. -/
def shpErr (r : Rul) (s : Stt) : Int := if rulErr r ≠ 0 then rulErr r else if fitS r s = false then 15 else if ordS r s = false then 3 else if witS r s = false then 2 else 0
theorem rulErr_zero {r : Rul} (h : rulErr r = 0) : 1 ≤ r.Tasks ∧ r.Tasks ≤ 64 := by
  unfold rulErr at h
  split at h
  · rename_i h1
    simp [rulOk, inR] at h1
    omega
  · simp at h
theorem det_state_Shape (r : Rul) (s : Stt) (h : okS s) (hr : r.Aisles.length ≤ 1073741824) : Det Tryz.prog 16 [en r, en s] [] (.int .i64 (shpErr r s)) [] := by
  refine det_finF mixed0 (knows_cons known_task_Rules (knows_cons known_Fits (knows_cons known_Orders (knows_cons known_Within knows_nil)))) ok_state_Shape 1 (by simp) ?_
  simp [ic_state_Shape, rs_state_Shape, cRules, cFits, cOrders, cWithin, h, hr, up hr]
  have e : shpErr r s = if rulErr r ≠ 0 then rulErr r else if fitS r s = false then 15 else if ordS r s = false then 3 else if witS r s = false then 2 else 0 := rfl
  refine ⟨fun h => by simp [e, h], fun h => ⟨fun h1 => by simp [e, h, h1], fun h1 => ⟨fun h2 => by simp [e, h, h1, h2], fun h2 => ⟨rulErr_zero h, fun h3 => by simp [e, h, h1, h2, h3], fun h3 => by simp [e, h, h1, h2, h3]⟩⟩⟩⟩
def cShape : Ctr := C2 (fun (r : Rul) (s : Stt) => okS s ∧ r.Aisles.length ≤ 1073741824) fun r s => .int .i64 (shpErr r s)
theorem known_Shape : Known Tryz.prog 16 cShape := known_C2 (fun x y h => det_state_Shape x y h.1 h.2) fun x y => flat_int _ _
def fewS (s : Stt) : Bool := decide (s.Tasks.length ≤ 70) && fewT s.Tasks && decide (s.Crew.length ≤ 40) && decide (s.Units.length ≤ 40) && decide (s.Leases.length ≤ 40) && decide (s.Locks.length ≤ 40) &&
  s.Leases.all (fun x => decide (x.Want.length ≤ 40)) && s.Locks.all fun x => decide (x.Wait.length ≤ 70)
theorem few_ok {s : Stt} (h : fewS s = true) : okS s := by
  simp [fewS, fewT] at h
  obtain ⟨⟨⟨⟨⟨⟨⟨h1, h2⟩, h3⟩, h4⟩, h5⟩, h6⟩, h7⟩, h8⟩ := h
  exact ⟨by omega, by omega, by omega, by omega, by omega, fun x hx => ⟨by have := (h2 x hx).1; omega, by have := (h2 x hx).2; omega⟩, fun x hx => by have := h7 x hx; unfold okL; omega, fun x hx => by have := h8 x hx; unfold okK; omega⟩
theorem det_r30_Few (s : Stt) (ht : s.Tasks.length ≤ 9223372036854775807) (hc : s.Crew.length ≤ 9223372036854775807) (hu : s.Units.length ≤ 9223372036854775807) (hl : s.Leases.length ≤ 9223372036854775807) (hk : s.Locks.length ≤ 9223372036854775807) :
    Det Tryz.prog 5 [en s] [] (.bool (fewS s)) [] := by
  refine det_finF mixed0 (knows_cons known_r23_Few knows_nil) ok_r30_Few 1 (by simp) ?_
  simp [ic_r30_Few, rs_r30_Few, cr23_Few, ht]
  refine ⟨fun h => ?_, fun h1 h2 h3 h4 h5 h6 => ?_⟩
  · grind [fewS]
  refine LoopC.scan Lse.zero s.Leases (fun i : Nat => ⟨[(1, .ptr 0 0 0), (3, .int .i64 i)], [.rows 8 [Cel.c s]]⟩) (fun r => fewS s = (r.all (fun x => decide (x.Want.length ≤ 40)) && s.Locks.all fun x => decide (x.Wait.length ≤ 70))) (by simp) (by simp) (by simp [fewS, h1, h2, h3, h4, h5, h6]) (fun i a r hi ha hG => ?_) fun hG => ?_
  · rw [hG]
    by_cases h : a.Want.length ≤ 40
    · simp [hi, ha, h]
      omega
    · simp [hi, ha, h]
  · simp only [List.all_nil, Bool.true_and] at hG
    simp
    refine LoopC.scan Lck.zero s.Locks (fun i : Nat => ⟨[(1, .ptr 0 0 0), (4, .int .i64 i)], [.rows 8 [Cel.c s]]⟩) (fun r => fewS s = r.all fun x => decide (x.Wait.length ≤ 70)) (by simp) (by simp) hG (fun i a r hi ha hG => ?_) fun hG => ?_
    · rw [hG]
      by_cases h : a.Wait.length ≤ 70
      · simp [hi, ha, h]
        omega
      · simp [hi, ha, h]
    · simp [hG]
def cr30_Few : Ctr := C1 (fun s : Stt => s.Tasks.length ≤ 9223372036854775807 ∧ s.Crew.length ≤ 9223372036854775807 ∧ s.Units.length ≤ 9223372036854775807 ∧ s.Leases.length ≤ 9223372036854775807 ∧ s.Locks.length ≤ 9223372036854775807) fun s => .bool (fewS s)
theorem known_r30_Few : Known Tryz.prog 5 cr30_Few := known_C1 (fun s h => det_r30_Few s h.1 h.2.1 h.2.2.1 h.2.2.2.1 h.2.2.2.2) fun s => flat_bool _
end Go.Proofs.YtnckibgcjgeekaaGreat.Sx
