/- The queue (package fifo): its memory, and what its functions do to it. No conditions: a kit of our own. -/
import Derived.Test.YtphkdomiehboaaaSx21
import Derived.Test.YtphkdomiehboaaaIr18
import Derived.Test.YtphkdomiehboaaaChecked
namespace Go.Proofs.Ytphkdomiehboaaa.Sx
open Go Go.RowKit
set_option linter.unusedVariables false
set_option linter.unusedSimpArgs false

theorem mixed : Try.prog.follows .mixedOrders = true := by kernel_rfl

structure Q where
  ring : List Int
  head : Int
  n : Int
  room : Int
  ks : List Int

def i64 (x : Int) : AV := .int .i64 x
def qrow (q : Q) (mid : Nat) : List AV := q.ring.map (AV.int .i64) ++ [.int .i64 q.head, .int .i64 q.n, .int .i64 q.room, .map mid]
def mkE (ks : List Int) : List (Int × AV) := ks.map fun k => (k, .int .i64 1)
def HQ (q : Q) (rest : List AObj) : List AObj := .imap (mkE q.ks) :: .rows 1028 [qrow q 0] :: rest
theorem alook_mkE (ks : List Int) (x : Int) : alook (mkE ks) x = if x ∈ ks then some (.int .i64 1) else none := by
  induction ks with
  | nil => simp [alook, mkE]
  | cons k ks ih =>
    simp only [alook, mkE, List.map_cons, List.find?_cons, List.mem_cons] at ih ⊢
    by_cases h : k = x
    · subst h; simp
    · have h' : ¬ x = k := fun e => h e.symm
      have hb : (k == x) = false := by simpa using h
      simp only [hb, h', false_or]
      exact ih
theorem alook_mkE' (ks : List Int) (x : Int) : (alook (mkE ks) x).getD (.int .i64 0) = .int .i64 (if x ∈ ks then 1 else 0) := by
  rw [alook_mkE]
  split <;> rfl
theorem aput_mkE (ks : List Int) (x : Int) : aput (mkE ks) x (.int .i64 1) = mkE (if x ∈ ks then ks else ks ++ [x]) := by
  induction ks with
  | nil => simp [aput, mkE]
  | cons k ks ih =>
    simp only [mkE, List.map_cons, aput, List.mem_cons] at ih ⊢
    by_cases h : k = x
    · subst h; simp
    · have h' : ¬ x = k := fun e => h e.symm
      simp only [h, h', if_false, false_or, ih]
      split <;> simp
theorem adel_mkE (ks : List Int) (x : Int) : adel (mkE ks) x = mkE (ks.erase x) := by
  induction ks with
  | nil => simp [adel, mkE]
  | cons k ks ih =>
    simp only [mkE, List.map_cons, adel, List.erase_cons] at ih ⊢
    by_cases h : k = x
    · subst h; simp
    · simp [h, ih]

section
variable {q : Q} {mid : Nat}
theorem qrow_len (h : q.ring.length = 1024) : (qrow q mid).length = 1028 := by simp [qrow, h]
theorem nth_app {α : Type} (l t : List α) (i : Nat) (d : α) : nth (l ++ t) i d = if i < l.length then nth l i d else nth t (i - l.length) d := by
  simp only [nth, List.getD_eq_getElem?_getD]
  split
  · rename_i h; rw [List.getElem?_append_left h]
  · rename_i h; rw [List.getElem?_append_right (by omega)]
theorem qrow_plain : (qrow q mid).all AV.plain = true := by
  simp [qrow, AV.plain]
theorem qrow_head (h : q.ring.length = 1024) : nth (qrow q mid) 1024 .any = .int .i64 q.head := by simp [qrow, nth_app, h]
theorem qrow_n (h : q.ring.length = 1024) : nth (qrow q mid) 1025 .any = .int .i64 q.n := by simp [qrow, nth_app, h]
theorem qrow_room (h : q.ring.length = 1024) : nth (qrow q mid) 1026 .any = .int .i64 q.room := by simp [qrow, nth_app, h]
theorem qrow_map (h : q.ring.length = 1024) : nth (qrow q mid) 1027 .any = .map mid := by simp [qrow, nth_app, h]
theorem nth_mapf {α β : Type} (f : α → β) (d : α) (d' : β) (xs : List α) (n : Nat) (h : n < xs.length) : nth (xs.map f) n d' = f (nth xs n d) := by
  simp [nth, List.getD_eq_getElem?_getD, h]
theorem qrow_at (h : q.ring.length = 1024) {i : Nat} (hi : i < 1024) : nth (qrow q mid) i .any = .int .i64 (nth q.ring i 0) := by
  simp only [qrow, nth_app, List.length_map, h, if_pos hi]
  exact nth_mapf _ 0 _ _ _ (by omega)
theorem qrow_set_n (h : q.ring.length = 1024) (v : Int) : over (qrow q mid) 1025 [.int .i64 v] = qrow { q with n := v } mid := by
  simp [qrow, over, h, List.take_append, List.drop_append, List.take_of_length_le, List.drop_of_length_le]
theorem qrow_set_head (h : q.ring.length = 1024) (v : Int) : over (qrow q mid) 1024 [.int .i64 v] = qrow { q with head := v } mid := by
  simp [qrow, over, h, List.take_append, List.drop_append, List.take_of_length_le, List.drop_of_length_le]
theorem qrow_set_at (h : q.ring.length = 1024) {i : Nat} (hi : i < 1024) (v : Int) : over (qrow q mid) i [.int .i64 v] = qrow { q with ring := q.ring.set i v } mid := by
  apply List.ext_getElem?
  intro k
  simp only [over]
  rw [splice_get (qrow q mid) i [AV.int .i64 v] (by simp [qrow_len h]; omega)]
  simp only [List.length_singleton, qrow]
  by_cases hk : k < 1024
  · rw [List.getElem?_append_left (by simp; omega), List.getElem?_append_left (by simp; omega)]
    simp only [List.getElem?_map, List.getElem?_set]
    by_cases he : i = k
    · subst he; simp [h, hi]
    · rw [if_neg (by omega), if_neg he]
  · rw [if_neg (by omega), List.getElem?_append_right (by simp; omega), List.getElem?_append_right (by simp; omega)]
    simp [h]
end

def isQ (H : List AObj) : Prop := ∃ q rest, H = HQ q rest ∧ q.ring.length = 1024
def unRow (row : List AV) (ks : List Int) : Q := ⟨(row.take 1024).map numOf, numOf (nth row 1024 .any), numOf (nth row 1025 .any), numOf (nth row 1026 .any), ks⟩
def unQ (H : List AObj) : Q := unRow (nth (rowsOf H 1) 0 []) ((mapOf H 0).map (·.1))
theorem isQ_lit (ks : List Int) (q : Q) (rest : List AObj) (h : q.ring.length = 1024) : isQ (.imap (mkE ks) :: .rows 1028 [qrow q 0] :: rest) := ⟨{ q with ks := ks }, rest, rfl, h⟩
theorem unQ_lit (ks : List Int) (q : Q) (rest : List AObj) (hl : q.ring.length = 1024) : unQ (.imap (mkE ks) :: .rows 1028 [qrow q 0] :: rest) = { q with ks := ks } := by
  simp only [unQ, rowsOf, mapOf, rowsO, List.getElem?_cons_zero, List.getElem?_cons_succ, nth_zero, unRow, qrow_head hl, qrow_n hl, qrow_room hl, numOf]
  simp only [Q.mk.injEq, true_and]
  refine ⟨?_, ?_⟩
  · simp only [qrow, List.take_append, List.length_map, hl, Nat.sub_self, List.take_zero, List.append_nil]
    rw [List.take_of_length_le (by simp [hl]), List.map_map]
    simp [Function.comp_def]
  · simp [mkE, Function.comp_def]
theorem unQ_self (q : Q) (rest : List AObj) (hl : q.ring.length = 1024) : unQ (.imap (mkE q.ks) :: .rows 1028 [qrow q 0] :: rest) = q := unQ_lit q.ks q rest hl
theorem unQ_HQ (q : Q) (rest : List AObj) (hl : q.ring.length = 1024) : unQ (HQ q rest) = q := unQ_lit q.ks q rest hl

/-- What lies at a place of the ring, from the head on. -/
def Q.pl (q : Q) (i : Int) : Int := (q.head + i).tmod 1024
def Q.get (q : Q) (i : Int) : Int := nth q.ring (q.pl i).toNat 0
/-- The numbers, in order. -/
def Q.all (q : Q) : List Int := (List.range q.n.toNat).map fun i : Nat => q.get i
structure Q.ok (q : Q) : Prop where
  len : q.ring.length = 1024
  head0 : 0 ≤ q.head
  head1 : q.head < 1024
  n0 : 0 ≤ q.n
  n1 : q.n ≤ q.room
  room : q.room ≤ 1024
  ks : ∀ x, x ∈ q.ks ↔ x ∈ q.all
  nodup : q.all.Nodup
  kd : q.ks.Nodup
theorem Q.ok.pl {q : Q} (h : q.ok) {i : Int} (hi : 0 ≤ i) : 0 ≤ q.pl i ∧ q.pl i < 1024 ∧ (q.pl i).toNat < 1024 := by
  have h1 : 0 ≤ q.head + i := by have := h.head0; omega
  unfold Q.pl
  rw [Int.tmod_eq_emod_of_nonneg h1]
  omega

section
variable (q : Q) (rest : List AObj)
theorem det_place (hl : q.ring.length = 1024) (i : Int) (h0 : fits .i64 (q.head + i)) : Det Try.prog 69 [.ptr 1 0 0, .int .i64 i] (HQ q rest) (.int .i64 (q.pl i)) (HQ q rest) := by
  refine det_fin0 mixed knows_nil ok_fifo_Queue_place (by simp) ?_
  simp [ic_fifo_Queue_place, rs_fifo_Queue_place, HQ, qrow_len hl, qrow_head hl, Q.pl]
  exact (fits_i64 _).1 h0
theorem det_Len (hl : q.ring.length = 1024) : Det Try.prog 24 [.ptr 1 0 0] (HQ q rest) (.int .i64 q.n) (HQ q rest) := by
  refine det_fin0 mixed knows_nil ok_fifo_Queue_Len (by simp) ?_
  simp [ic_fifo_Queue_Len, rs_fifo_Queue_Len, HQ, qrow_len hl, qrow_n hl]
theorem det_Len0 (H : List AObj) : Det Try.prog 24 [.nilp] H (.int .i64 0) H := by
  refine det_fin0 mixed knows_nil ok_fifo_Queue_Len (by simp) ?_
  simp [ic_fifo_Queue_Len, rs_fifo_Queue_Len]
theorem det_Room (hl : q.ring.length = 1024) : Det Try.prog 25 [.ptr 1 0 0] (HQ q rest) (.int .i64 q.room) (HQ q rest) := by
  refine det_fin0 mixed knows_nil ok_fifo_Queue_Room (by simp) ?_
  simp [ic_fifo_Queue_Room, rs_fifo_Queue_Room, HQ, qrow_len hl, qrow_room hl]
theorem det_Room0 (H : List AObj) : Det Try.prog 25 [.nilp] H (.int .i64 0) H := by
  refine det_fin0 mixed knows_nil ok_fifo_Queue_Room (by simp) ?_
  simp [ic_fifo_Queue_Room, rs_fifo_Queue_Room]
end

def newQ (room : Int) : Q := ⟨List.replicate 1024 0, 0, 0, max (min room 1024) 0, []⟩
theorem newQ_len (room : Int) : (newQ room).ring.length = 1024 := List.length_replicate
theorem qrow_new (room : Int) : over (over (List.replicate 1027 (AV.int .i64 0) ++ [.nilm]) 1026 [.int .i64 (max (min room 1024) 0)]) 1027 [.map 0] = qrow (newQ room) 0 := by
  have hz : List.replicate 1027 (AV.int .i64 0) ++ [.nilm] = (List.replicate 1024 (0 : Int)).map (AV.int .i64) ++ [.int .i64 0, .int .i64 0, .int .i64 0, .nilm] := by
    rw [List.map_replicate, show (1027 : Nat) = 1024 + 3 from rfl, ← List.replicate_append_replicate, List.append_assoc]
    rfl
  have hl : ((List.replicate 1024 (0 : Int)).map (AV.int .i64)).length = 1024 := by rw [List.length_map, List.length_replicate]
  rw [hz]
  simp only [qrow, newQ]
  generalize (List.replicate 1024 (0 : Int)).map (AV.int .i64) = l at *
  simp [over, List.take_append, List.drop_append, hl, List.take_of_length_le, List.drop_of_length_le]
theorem det_New (room : Int) : Det Try.prog 12 [.int .i64 room] [] (.ptr 1 0 0) (HQ (newQ room) []) := by
  refine det_fin0 mixed knows_nil ok_fifo_New (by simp) ?_
  have hl := newQ_len room
  have hr := qrow_new room
  have hm : (if (if 1024 < room then 1024 else room) < 0 then 0 else if 1024 < room then 1024 else room) = max (min room 1024) 0 := by
    split <;> split <;> omega
  have ho : (over (List.replicate 1027 (AV.int .i64 0) ++ [.nilm]) 1026 [.int .i64 (max (min room 1024) 0)]).length = 1028 := by
    rw [over_len _ _ _ (by simp [-List.reduceReplicate])]; simp [-List.reduceReplicate]
  simp [-List.reduceReplicate, -List.all_eq_true, ic_fifo_New, rs_fifo_New, HQ, hm, hr, qrow_plain, qrow_len hl, ho]
  simp [newQ, mkE, -List.reduceReplicate]

def cPlace : Ctr := pureH (fun a H => isQ H ∧ ∃ i, a = [.ptr 1 0 0, .int .i64 i] ∧ fits .i64 ((unQ H).head + i)) (fun a H => .int .i64 ((unQ H).pl (numOf (nth a 1 .any))))
theorem known_place : Known Try.prog 69 cPlace := by
  rintro args H ⟨⟨q, rest, rfl, hl⟩, i, rfl, hi⟩
  simp only [cPlace, pureH, unQ_HQ q rest hl] at hi ⊢
  exact det_place q rest hl i hi
def cLen : Ctr := pureH (fun a H => a = [.nilp] ∨ (isQ H ∧ a = [.ptr 1 0 0])) (fun a H => .int .i64 (match a with | [.nilp] => 0 | _ => (unQ H).n))
theorem known_Len : Known Try.prog 24 cLen := by
  rintro args H (rfl | ⟨⟨q, rest, rfl, hl⟩, rfl⟩)
  · exact det_Len0 H
  · simp only [cLen, pureH, unQ_HQ q rest hl]
    exact det_Len q rest hl

/-- Put: what it says, and the queue behind it. -/
def Q.put (q : Q) (x : Int) : Int × Q :=
  if x ∈ q.ks then (6, q) else if q.n = q.room then (9, q) else (0, { q with ring := q.ring.set (q.pl q.n).toNat x, ks := q.ks ++ [x], n := q.n + 1 })
theorem det_Put {q : Q} (h : q.ok) (rest : List AObj) (x : Int) : Det Try.prog 14 [.ptr 1 0 0, .int .i64 x] (HQ q rest) (.int .i64 (q.put x).1) (HQ (q.put x).2 rest) := by
  have hl := h.len
  obtain ⟨p1, p2, p3⟩ := h.pl h.n0
  refine det_fin0 mixed (knows_cons known_place knows_nil) ok_fifo_Queue_Put (by simp) ?_
  simp [ic_fifo_Queue_Put, rs_fifo_Queue_Put, HQ, qrow_len, qrow_n, qrow_room, qrow_map, alook_mkE', aput_mkE, cPlace, pureH, isQ_lit, unQ_self, hl, p1, p2, p3, qrow_set_at, qrow_set_n]
  have h1 := h.head0; have h2 := h.head1; have h3 := h.n0; have h4 := h.n1; have h5 := h.room
  by_cases hx : x ∈ q.ks
  · simp [hx, Q.put]
  · by_cases hr : q.n = q.room
    · simp [hx, hr, Q.put]
    · simp [hx, hr, Q.put, qrow]
      omega
def cPut : Ctr := ⟨fun a H => isQ H ∧ (unQ H).ok ∧ ∃ x, a = [.ptr 1 0 0, .int .i64 x], fun a H => .int .i64 ((unQ H).put (numOf (nth a 1 .any))).1, fun a H => HQ ((unQ H).put (numOf (nth a 1 .any))).2 (H.drop 2)⟩
theorem known_Put : Known Try.prog 14 cPut := by
  rintro args H ⟨⟨q, rest, rfl, hl⟩, hok, x, rfl⟩
  simp only [cPut, unQ_HQ q rest hl] at hok ⊢
  exact det_Put hok rest x

def Q.first (q : Q) : AV := if q.n = 0 then .tup [.int .i64 0, .bool false] else .tup [.int .i64 (q.get 0), .bool true]
theorem det_First {q : Q} (h : q.ok) (rest : List AObj) : Det Try.prog 19 [.ptr 1 0 0] (HQ q rest) q.first (HQ q rest) := by
  have hl := h.len
  have h1 := h.head0; have h2 := h.head1; have h3 := h.n0; have h4 := h.n1; have h5 := h.room
  have hh : q.head.toNat < 1024 := by omega
  refine det_fin0 mixed (knows_cons known_Len knows_nil) ok_fifo_Queue_First (by simp) ?_
  simp [ic_fifo_Queue_First, rs_fifo_Queue_First, HQ, qrow_len, qrow_n, qrow_head, cLen, pureH, isQ_lit, unQ_self, hl, hh, qrow_at, Q.first]
  intro hn
  have e : q.pl 0 = q.head := by unfold Q.pl; rw [Int.tmod_eq_emod_of_nonneg (by omega)]; omega
  simp [hn, Q.get, e]
  omega
theorem det_First0 (H : List AObj) : Det Try.prog 19 [.nilp] H (.tup [.int .i64 0, .bool false]) H := by
  refine det_fin0 mixed (knows_cons known_Len knows_nil) ok_fifo_Queue_First (by simp) ?_
  simp [ic_fifo_Queue_First, rs_fifo_Queue_First, cLen, pureH]
def cFirst : Ctr := pureH (fun a H => a = [.nilp] ∨ (isQ H ∧ (unQ H).ok ∧ a = [.ptr 1 0 0])) (fun a H => match a with | [.nilp] => .tup [.int .i64 0, .bool false] | _ => (unQ H).first)
theorem known_First : Known Try.prog 19 cFirst := by
  rintro args H (rfl | ⟨⟨q, rest, rfl, hl⟩, hok, rfl⟩)
  · exact det_First0 H
  · simp only [cFirst, pureH, unQ_HQ q rest hl] at hok ⊢
    exact det_First hok rest

def Q.take (q : Q) : AV × Q := if q.n = 0 then (q.first, q) else (q.first, { q with head := q.pl 1, n := q.n - 1, ks := q.ks.erase (q.get 0) })
theorem det_Take {q : Q} (h : q.ok) (rest : List AObj) : Det Try.prog 16 [.ptr 1 0 0] (HQ q rest) q.take.1 (HQ q.take.2 rest) := by
  have hl := h.len
  have h1 := h.head0; have h2 := h.head1; have h3 := h.n0; have h4 := h.n1; have h5 := h.room
  refine det_fin0 mixed (knows_cons known_First (knows_cons known_place knows_nil)) ok_fifo_Queue_Take (by simp) ?_
  by_cases hn : q.n = 0
  · simp [ic_fifo_Queue_Take, rs_fifo_Queue_Take, HQ, cFirst, pureH, isQ_lit, unQ_self, hl, h, Q.first, hn, Q.take]
  · simp [ic_fifo_Queue_Take, rs_fifo_Queue_Take, HQ, cFirst, pureH, isQ_lit, unQ_self, hl, h, Q.first, hn, Q.take, qrow_len, qrow_map, adel_mkE, cPlace, unQ_lit, qrow_set_head, qrow_set_n, qrow_n]
    simp [qrow, Q.pl]
    omega
def cTake : Ctr := ⟨fun a H => isQ H ∧ (unQ H).ok ∧ a = [.ptr 1 0 0], fun a H => (unQ H).take.1, fun a H => HQ (unQ H).take.2 (H.drop 2)⟩
theorem known_Take : Known Try.prog 16 cTake := by
  rintro args H ⟨⟨q, rest, rfl, hl⟩, hok, rfl⟩
  simp only [cTake, unQ_HQ q rest hl] at hok ⊢
  exact det_Take hok rest

def Q.find (q : Q) (x : Int) : Int := if x ∈ q.ks then q.all.idxOf x else -1
theorem Q.all_len {q : Q} : q.all.length = q.n.toNat := by simp [Q.all]
theorem Q.all_get {q : Q} {i : Nat} (h : i < q.all.length) : q.all[i] = q.get i := by simp [Q.all]
theorem det_At {q : Q} (h : q.ok) (rest : List AObj) (x : Int) : Det Try.prog 20 [.ptr 1 0 0, .int .i64 x] (HQ q rest) (.int .i64 (q.find x)) (HQ q rest) := by
  have hl := h.len
  have h1 := h.head0; have h2 := h.head1; have h3 := h.n0; have h4 := h.n1; have h5 := h.room
  refine det_fin0 mixed (knows_cons known_place knows_nil) ok_fifo_Queue_At (by simp) ?_
  simp [ic_fifo_Queue_At, rs_fifo_Queue_At]
  refine BackC.by' (fun i : Nat => ⟨[(0, .ptr 1 0 0), (1, .int .i64 x), (5, .int .i64 i)], HQ q rest⟩) (fun i => x ∈ q.ks ∧ i ≤ q.all.idxOf x) (fun i => q.all.length - i) ?_ fun i hi => ?_
  · by_cases hx : x ∈ q.ks
    · simp [firstBy, HQ, qrow_len, qrow_map, hl, alook_mkE', hx, Q.find]
      exact ⟨0, rfl, Nat.zero_le _⟩
    · simp [firstBy, HQ, qrow_len, qrow_map, hl, alook_mkE', hx, Q.find]
  · obtain ⟨hx, hi⟩ := hi
    have hlt : q.all.idxOf x < q.all.length := List.idxOf_lt_length_of_mem ((h.ks x).1 hx)
    have hal := q.all_len
    obtain ⟨p1, p2, p3⟩ := h.pl (i := i) (by omega)
    simp [nextBy, HQ, cPlace, pureH, isQ_lit, unQ_self, hl, qrow_len, p1, p2, p3, qrow_at, hx, Q.find]
    have hil : i < q.all.length := by omega
    have hg : q.all[i] = nth q.ring (q.pl i).toNat 0 := q.all_get hil
    refine ⟨by omega, by omega, fun hne => ⟨by omega, i + 1, by omega, by omega, ?_⟩, fun he => ?_⟩
    · by_cases e : i = q.all.idxOf x
      · exfalso; apply hne; rw [← hg]; simp only [e]; exact List.getElem_idxOf hlt
      · omega
    · have := h.nodup.idxOf_getElem i hil
      rw [hg, he] at this
      omega
theorem det_At0 (H : List AObj) (x : Int) : Det Try.prog 20 [.nilp, .int .i64 x] H (.int .i64 (-1)) H := by
  refine det_fin0 mixed knows_nil ok_fifo_Queue_At (by simp) ?_
  simp [ic_fifo_Queue_At, rs_fifo_Queue_At]
  refine BackC.by' (fun i : Nat => ⟨[(0, .nilp), (1, .int .i64 x), (5, .int .i64 i)], H⟩) (fun i => False) (fun i => 0) ?_ fun i hi => hi.elim
  simp
def cAt : Ctr := pureH (fun a H => ∃ x, a = [.nilp, .int .i64 x] ∨ (isQ H ∧ (unQ H).ok ∧ a = [.ptr 1 0 0, .int .i64 x])) (fun a H => match a with | [.nilp, _] => .int .i64 (-1) | _ => .int .i64 ((unQ H).find (numOf (nth a 1 .any))))
theorem known_At : Known Try.prog 20 cAt := by
  rintro args H ⟨x, rfl | ⟨⟨q, rest, rfl, hl⟩, hok, rfl⟩⟩
  · exact det_At0 H x
  · simp only [cAt, pureH, unQ_HQ q rest hl] at hok ⊢
    exact det_At hok rest x

/-- The numbers behind place i, one place ahead. -/
def Q.shift (q : Q) (i : Nat) : Nat → Q
  | 0 => q
  | k + 1 => { q.shift i k with ring := (q.shift i k).ring.set (q.pl (i + k : Nat)).toNat ((q.shift i k).get (i + k + 1 : Nat)) }
theorem Q.shift_same (q : Q) (i k : Nat) : (q.shift i k).head = q.head ∧ (q.shift i k).n = q.n ∧ (q.shift i k).room = q.room ∧ (q.shift i k).ks = q.ks ∧ (q.shift i k).ring.length = q.ring.length := by
  induction k with
  | zero => simp [Q.shift]
  | succ k ih => simp [Q.shift, ih]
def Q.drop (q : Q) (x : Int) : Bool × Q := if x ∈ q.ks then (true, { q.shift (q.all.idxOf x) (q.n.toNat - 1 - q.all.idxOf x) with n := q.n - 1, ks := q.ks.erase x }) else (false, q)
theorem det_Drop {q : Q} (h : q.ok) (rest : List AObj) (x : Int) : Det Try.prog 17 [.ptr 1 0 0, .int .i64 x] (HQ q rest) (.bool (q.drop x).1) (HQ (q.drop x).2 rest) := by
  have hl := h.len
  have h1 := h.head0; have h2 := h.head1; have h3 := h.n0; have h4 := h.n1; have h5 := h.room
  refine det_fin0 mixed (knows_cons known_At (knows_cons known_place knows_nil)) ok_fifo_Queue_Drop (by simp) ?_
  by_cases hx : x ∈ q.ks
  · have hlt : q.all.idxOf x < q.all.length := List.idxOf_lt_length_of_mem ((h.ks x).1 hx)
    have hal := q.all_len
    simp [ic_fifo_Queue_Drop, rs_fifo_Queue_Drop, HQ, cAt, pureH, isQ_lit, unQ_self, hl, h, Q.find, hx]
    refine ⟨by omega, LoopC.by' (fun k : Nat => ⟨[(0, .ptr 1 0 0), (1, .int .i64 x), (5, .int .i64 (q.all.idxOf x + k : Nat))], HQ (q.shift (q.all.idxOf x) k) rest⟩) (fun k => q.all.idxOf x + k < q.n.toNat) (fun k => q.n.toNat - k) 0 ?_ fun k hk => ?_⟩
    · simp [HQ, Q.shift]
      omega
    · obtain ⟨e1, e2, e3, e4, e5⟩ := q.shift_same (q.all.idxOf x) k
      have hs : q.shift (q.all.idxOf x) (k + 1) = { q.shift (q.all.idxOf x) k with ring := (q.shift (q.all.idxOf x) k).ring.set (q.pl (q.all.idxOf x + k : Nat)).toNat ((q.shift (q.all.idxOf x) k).get (q.all.idxOf x + k + 1 : Nat)) } := rfl
      have hend : q.all.idxOf x + k + 1 = q.n.toNat → q.drop x = (true, { q.shift (q.all.idxOf x) k with n := q.n - 1, ks := q.ks.erase x }) := fun e => by
        simp only [Q.drop, hx, if_true]
        rw [show q.n.toNat - 1 - q.all.idxOf x = k by omega]
      obtain ⟨p1, p2, p3⟩ := h.pl (i := (q.all.idxOf x + k : Nat)) (by omega)
      obtain ⟨r1, r2, r3⟩ := h.pl (i := (q.all.idxOf x + k + 1 : Nat)) (by omega)
      generalize q.all.idxOf x = ix at *
      have hr : ∀ r, q.shift ix k = r → r.ring.length = 1024 ∧ ∀ j, r.pl j = q.pl j := fun r e => ⟨by rw [← e, e5, hl], fun j => by rw [← e]; simp [Q.pl, e1]⟩
      generalize hrr : q.shift ix k = r at *
      obtain ⟨hl', hpl⟩ := hr r rfl
      simp only [Int.natCast_add, Int.natCast_one] at p1 p2 p3 r1 r2 r3 hs
      simp [nextBy, HQ, qrow_len, qrow_n, hl', e2, cPlace, pureH, isQ_lit, unQ_self, hpl, p1, p2, p3, r1, r2, r3, qrow_at, qrow_set_at, qrow_map, adel_mkE, qrow_set_n]
      refine ⟨by omega, fun hlt => ⟨by omega, by omega, by omega, by omega, by omega, by omega, k + 1, by omega, ⟨by omega, by rw [hs], ?_⟩, by omega⟩, fun hge => ?_⟩
      · rw [hs]; simp [qrow, Q.get, hpl, e2]
      · rw [hend (by omega)]
        simp [qrow, e4]
        omega
  · simp [ic_fifo_Queue_Drop, rs_fifo_Queue_Drop, HQ, cAt, pureH, isQ_lit, unQ_self, hl, h, Q.find, hx, Q.drop]
def cDrop : Ctr := ⟨fun a H => isQ H ∧ (unQ H).ok ∧ ∃ x, a = [.ptr 1 0 0, .int .i64 x], fun a H => .bool ((unQ H).drop (numOf (nth a 1 .any))).1, fun a H => HQ ((unQ H).drop (numOf (nth a 1 .any))).2 (H.drop 2)⟩
theorem known_Drop : Known Try.prog 17 cDrop := by
  rintro args H ⟨⟨q, rest, rfl, hl⟩, hok, x, rfl⟩
  simp only [cDrop, unQ_HQ q rest hl] at hok ⊢
  exact det_Drop hok rest x
theorem det_Drop0 (H : List AObj) (x : Int) : Det Try.prog 17 [.nilp, .int .i64 x] H (.bool false) H := by
  refine det_fin0 mixed (knows_cons known_At knows_nil) ok_fifo_Queue_Drop (by simp) ?_
  simp [ic_fifo_Queue_Drop, rs_fifo_Queue_Drop, cAt, pureH]
theorem det_Put0 (H : List AObj) (x : Int) : Det Try.prog 14 [.nilp, .int .i64 x] H (.int .i64 9) H := by
  refine det_fin0 mixed knows_nil ok_fifo_Queue_Put (by simp) ?_
  simp [ic_fifo_Queue_Put, rs_fifo_Queue_Put]
theorem det_Take0 (H : List AObj) : Det Try.prog 16 [.nilp] H (.tup [.int .i64 0, .bool false]) H := by
  refine det_fin0 mixed (knows_cons known_First knows_nil) ok_fifo_Queue_Take (by simp) ?_
  simp [ic_fifo_Queue_Take, rs_fifo_Queue_Take, cFirst, pureH]

theorem low_HQ (q : Q) : ∀ o ∈ HQ q [], LowO 2 o := by
  intro o ho
  simp only [HQ, List.mem_cons, List.not_mem_nil, or_false] at ho
  rcases ho with rfl | rfl
  · refine .imap rfl fun i a b h1 h2 => ?_
    rw [h1] at h2; cases h2
    simp only [mkE, List.getElem?_map, Option.map_eq_some_iff] at h1
    obtain ⟨k, _, rfl⟩ := h1
    exact ⟨rfl, .int _ _⟩
  · refine .rows rfl (fun i r r' h1 h2 => by rw [h1] at h2; cases h2; rfl) fun i r r' j a b h1 h2 h3 h4 => ?_
    rw [h1] at h2; cases h2
    rw [h3] at h4; cases h4
    have hr : r = qrow q 0 := by
      have := List.mem_of_getElem? h1
      simpa using this
    subst hr
    have ha := List.mem_of_getElem? h3
    simp only [qrow, List.mem_append, List.mem_map, List.mem_cons, List.not_mem_nil, or_false] at ha
    rcases ha with ⟨x, _, rfl⟩ | rfl | rfl | rfl | rfl
    · exact .int _ _
    · exact .int _ _
    · exact .int _ _
    · exact .int _ _
    · exact .map ⟨rfl, by omega⟩

theorem det_List {q : Q} (h : q.ok) : Det Try.prog 23 [.ptr 1 0 0] (HQ q []) (vI q.all) (HQ q []) := by
  have hl := h.len
  have h1 := h.head0; have h2 := h.head1; have h3 := h.n0; have h4 := h.n1; have h5 := h.room
  refine det_finK mixed (knows_cons known_Len (knows_cons known_place knows_nil)) ok_fifo_Queue_List 1 (by simp) (low_HQ q) rfl ?_
  simp [ic_fifo_Queue_List, rs_fifo_Queue_List, HQ, cLen, pureH, isQ_lit, unQ_self, hl]
  refine LoopC.by' (fun a : Nat × List Int => ⟨[(0, .ptr 1 0 0), (3, bsl 2 (a.2.map rI)), (6, .int .i64 q.n), (7, .int .i64 a.1)], HQ q (junk 1 (a.2.map rI))⟩) (fun a => a.1 ≤ q.n.toNat ∧ a.2 = q.all.take a.1) (fun a => q.n.toNat - a.1) (0, []) ?_ fun ⟨k, out⟩ ⟨hk, ho⟩ => ?_
  · simp [HQ]
  · have hal := q.all_len
    obtain ⟨p1, p2, p3⟩ := h.pl (i := k) (by omega)
    simp only at hk ho
    have hlen : out.length = k := by rw [ho]; simp; omega
    have hnext : ∀ (hk' : k < q.n.toNat), (k + 1 ≤ q.n.toNat ∧ out ++ [nth q.ring (q.pl k).toNat 0] = q.all.take (k + 1)) := fun hk' => by
      refine ⟨by omega, ?_⟩
      have hg := q.all_get (i := k) (by omega)
      simp only [Q.get] at hg
      rw [← hg]; simp only [ho]; exact List.take_append_getElem (by omega)
    have hend : q.n.toNat ≤ k → out = q.all := fun h => by rw [ho, List.take_of_length_le (by omega)]
    rcases out with _ | ⟨o, out⟩
    · simp [HQ, cPlace, pureH, isQ_lit, unQ_self, hl, qrow_len, p1, p2, p3, qrow_at]
      refine ⟨fun hk' => ⟨by omega, by omega, by omega, (k + 1, [nth q.ring (q.pl k).toNat 0]), by simp; omega, by simp [HQ, rI], hnext (by omega)⟩, fun h => by first | exact hend (by omega) | simpa using hend (by omega)⟩
    · simp [HQ, cPlace, pureH, isQ_lit, unQ_self, hl, qrow_len, p1, p2, p3, qrow_at]
      have hl2 : out.length + 1 = k := by simpa using hlen
      refine ⟨fun hk' => ⟨by omega, by omega, by omega, by omega, (k + 1, (o :: out) ++ [nth q.ring (q.pl k).toNat 0]), by simp; omega, by simp [HQ, rI], hnext (by omega)⟩, fun h => ?_⟩
      exact hend (by omega)
theorem det_List' {q : Q} (h : q.ok) (rest : List AObj) : Det Try.prog 23 [.ptr 1 0 0] (HQ q rest) (vI q.all) (HQ q rest) :=
  (det_List h).behind (H0 := HQ q []) rfl (fun a ha => by simp at ha; subst ha; exact .ptr ⟨rfl, by show 1 < 2; omega⟩) (low_HQ q) (low_HQ q) ((closed_vI _).seen _ _) rest
def cList : Ctr := pureH (fun a H => isQ H ∧ (unQ H).ok ∧ a = [.ptr 1 0 0]) (fun a H => vI (unQ H).all)
theorem known_List : Known Try.prog 23 cList := by
  rintro args H ⟨⟨q, rest, rfl, hl⟩, hok, rfl⟩
  simp only [cList, pureH, unQ_HQ q rest hl] at hok ⊢
  exact det_List' hok rest
theorem isQ_HQ {q : Q} (h : q.ok) (rest : List AObj) : isQ (HQ q rest) := ⟨q, rest, rfl, h.len⟩
theorem unQ_HQ' {q : Q} (h : q.ok) (rest : List AObj) : unQ (HQ q rest) = q := unQ_HQ q rest h.len
@[simp] theorem HQ_get (q : Q) (rest : List AObj) (n : Nat) : (HQ q rest)[n + 2]? = rest[n]? := rfl
@[simp] theorem HQ_getE (q : Q) (rest : List AObj) (n : Nat) (h : n + 2 < (HQ q rest).length) : (HQ q rest)[n + 2] = rest[n]'(by simpa [HQ] using h) := rfl
@[simp] theorem HQ_len (q : Q) (rest : List AObj) : (HQ q rest).length = rest.length + 2 := rfl
@[simp] theorem HQ_app (q : Q) (rest t : List AObj) : HQ q rest ++ t = HQ q (rest ++ t) := rfl
@[simp] theorem HQ_drop (q : Q) (rest : List AObj) : (HQ q rest).drop 2 = rest := rfl
@[simp] theorem HQ_set (q : Q) (rest : List AObj) (n : Nat) (o : AObj) : (HQ q rest).set (n + 2) o = HQ q (rest.set n o) := rfl
def cRoom : Ctr := pureH (fun a H => a = [.nilp] ∨ (isQ H ∧ a = [.ptr 1 0 0])) (fun a H => .int .i64 (match a with | [.nilp] => 0 | _ => (unQ H).room))
theorem known_Room : Known Try.prog 25 cRoom := by
  rintro args H (rfl | ⟨⟨q, rest, rfl, hl⟩, rfl⟩)
  · exact det_Room0 H
  · simp only [cRoom, pureH, unQ_HQ q rest hl]
    exact det_Room q rest hl
end Go.Proofs.Ytphkdomiehboaaa.Sx
