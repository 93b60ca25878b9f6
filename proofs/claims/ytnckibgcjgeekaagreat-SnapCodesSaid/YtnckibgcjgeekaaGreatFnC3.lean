/- Functions of package state that go through lists with closures; numbers of things, lists that are alike, copies. No conditions: a kit of our own. -/
import Derived.Test.YtnckibgcjgeekaaGreatFnC2
import Derived.Test.YtnckibgcjgeekaaGreatTy13
import Derived.Test.YtnckibgcjgeekaaGreatFnA2
namespace Go.Proofs.YtnckibgcjgeekaaGreat.Sx
open Go Go.RowKit
set_option linter.unusedVariables false
set_option linter.unusedSimpArgs false

def p_fits_1  (x : Tsk) : Bool := decide (x.Burnt.length ≤ 16)
theorem det_fits_1 (x : Tsk)  (h : True) : Det Tryz.prog 94 [en x] [] (.bool (p_fits_1  x)) [] := by
  refine det_finF mixed0 knows_nil ok_state_fits_1 1 (by simp) ?_
  simp [ic_state_fits_1, rs_state_fits_1, p_fits_1]
def c_fits_1 : Ctr := C1 (fun (x : Tsk) => True) fun x => .bool (p_fits_1  x)
theorem known_fits_1 : Known Tryz.prog 94 c_fits_1 := known_C1 (fun x h => det_fits_1 x h) fun x => flat_bool _
abbrev Q_fits_1 : Type := FnC 94
theorem det_every_fits_1 (l : List Tsk) (q : Q_fits_1) (hl : l.length ≤ 9223372036854775807) (hp : True) : Det Tryz.prog 93 [en l, en q] [] (.bool (l.all (p_fits_1 ))) [] := by
  refine det_finF mixed0 (knows_cons known_fits_1 knows_nil) ok_state_every_api_Task 1 (by simp) ?_
  simp [ic_state_every_api_Task, rs_state_every_api_Task]
  refine BackC.scanB Tsk.zero l (fun (i : Nat) (_ : Unit) => ⟨[(0, .view (l.map Cel.c)), (1, en q), (5, .int .i64 i)], []⟩) (fun _ _ r => l.all (p_fits_1 ) = r.all (p_fits_1 )) (fun i b r _ _ => ⟨Nat.zero_le _, lowS3 l q 0 1 5 _⟩) (by simp) (fun i a r b hi ha hd hG => ?_) fun b hG => ?_
  · have hne : ¬ i = l.length := by omega
    have h : True := trivial
    rw [hG]
    cases hb : p_fits_1  a
    · simp [hi, ha, c_fits_1, hne, hb, h]
    · simp [hi, ha, c_fits_1, hne, hb, h]
      try omega
  · rw [hG]
    simp
def cE_fits_1 : Ctr := C2 (fun (l : List Tsk) (q : Q_fits_1) => l.length ≤ 9223372036854775807 ∧ True) fun l q => .bool (l.all (p_fits_1 ))
theorem knownE_fits_1 : Known Tryz.prog 93 cE_fits_1 := known_C2 (fun l q h => det_every_fits_1 l q h.1 h.2) fun l q => flat_bool _
def p_fits_2 (r : Rul) (x : Lse) : Bool := decide (x.Want.length ≤ r.Aisles.length)
theorem det_fits_2 (x : Lse) (r : Bx Rul) (h : True) : Det Tryz.prog 96 [en x, en r] [] (.bool (p_fits_2 r.v x)) [] := by
  refine det_finF mixed0 knows_nil ok_state_fits_2 1 (by simp) ?_
  simp [ic_state_fits_2, rs_state_fits_2, p_fits_2]
def c_fits_2 : Ctr := C2 (fun (x : Lse) (r : Bx Rul) => True) fun x r => .bool (p_fits_2 r.v x)
theorem known_fits_2 : Known Tryz.prog 96 c_fits_2 := known_C2 (fun x r h => det_fits_2 x r h) fun x r => flat_bool _
abbrev Q_fits_2 : Type := Clo1 96 Rul
theorem det_every_fits_2 (l : List Lse) (q : Q_fits_2) (hl : l.length ≤ 9223372036854775807) (hp : True) : Det Tryz.prog 95 [en l, en q] [] (.bool (l.all (p_fits_2 q.v))) [] := by
  refine det_finF mixed0 (knows_cons known_fits_2 knows_nil) ok_state_every_api_Lease 1 (by simp) ?_
  simp [ic_state_every_api_Lease, rs_state_every_api_Lease]
  refine BackC.scanB Lse.zero l (fun (i : Nat) (_ : Unit) => ⟨[(0, .view (l.map Cel.c)), (1, en q), (5, .int .i64 i)], []⟩) (fun _ _ r => l.all (p_fits_2 q.v) = r.all (p_fits_2 q.v)) (fun i b r _ _ => ⟨Nat.zero_le _, lowS3 l q 0 1 5 _⟩) (by simp) (fun i a r b hi ha hd hG => ?_) fun b hG => ?_
  · have hne : ¬ i = l.length := by omega
    have h : True := trivial
    rw [hG]
    cases hb : p_fits_2 q.v a
    · simp [hi, ha, c_fits_2, hne, hb, h]
    · simp [hi, ha, c_fits_2, hne, hb, h]
      try omega
  · rw [hG]
    simp
def cE_fits_2 : Ctr := C2 (fun (l : List Lse) (q : Q_fits_2) => l.length ≤ 9223372036854775807 ∧ True) fun l q => .bool (l.all (p_fits_2 q.v))
theorem knownE_fits_2 : Known Tryz.prog 95 cE_fits_2 := known_C2 (fun l q h => det_every_fits_2 l q h.1 h.2) fun l q => flat_bool _
def p_fits_3  (x : Lck) : Bool := decide (x.Wait.length ≤ 64)
theorem det_fits_3 (x : Lck)  (h : True) : Det Tryz.prog 98 [en x] [] (.bool (p_fits_3  x)) [] := by
  refine det_finF mixed0 knows_nil ok_state_fits_3 1 (by simp) ?_
  simp [ic_state_fits_3, rs_state_fits_3, p_fits_3]
def c_fits_3 : Ctr := C1 (fun (x : Lck) => True) fun x => .bool (p_fits_3  x)
theorem known_fits_3 : Known Tryz.prog 98 c_fits_3 := known_C1 (fun x h => det_fits_3 x h) fun x => flat_bool _
abbrev Q_fits_3 : Type := FnC 98
theorem det_every_fits_3 (l : List Lck) (q : Q_fits_3) (hl : l.length ≤ 9223372036854775807) (hp : True) : Det Tryz.prog 97 [en l, en q] [] (.bool (l.all (p_fits_3 ))) [] := by
  refine det_finF mixed0 (knows_cons known_fits_3 knows_nil) ok_state_every_api_Lock 1 (by simp) ?_
  simp [ic_state_every_api_Lock, rs_state_every_api_Lock]
  refine BackC.scanB Lck.zero l (fun (i : Nat) (_ : Unit) => ⟨[(0, .view (l.map Cel.c)), (1, en q), (5, .int .i64 i)], []⟩) (fun _ _ r => l.all (p_fits_3 ) = r.all (p_fits_3 )) (fun i b r _ _ => ⟨Nat.zero_le _, lowS3 l q 0 1 5 _⟩) (by simp) (fun i a r b hi ha hd hG => ?_) fun b hG => ?_
  · have hne : ¬ i = l.length := by omega
    have h : True := trivial
    rw [hG]
    cases hb : p_fits_3  a
    · simp [hi, ha, c_fits_3, hne, hb, h]
    · simp [hi, ha, c_fits_3, hne, hb, h]
      try omega
  · rw [hG]
    simp
def cE_fits_3 : Ctr := C2 (fun (l : List Lck) (q : Q_fits_3) => l.length ≤ 9223372036854775807 ∧ True) fun l q => .bool (l.all (p_fits_3 ))
theorem knownE_fits_3 : Known Tryz.prog 97 cE_fits_3 := known_C2 (fun l q h => det_every_fits_3 l q h.1 h.2) fun l q => flat_bool _
def p_orders_3  (x : Tsk) : Bool := rises x.Burnt
theorem det_orders_3 (x : Tsk)  (h : okT x) : Det Tryz.prog 106 [en x] [] (.bool (p_orders_3  x)) [] := by
  refine det_finF mixed0 (knows_cons known_IdRight knows_nil) ok_state_orders_3 1 (by simp) ?_
  have h1 := h.1
  have h2 := h.2
  have h3 : x.Sp.After.length ≤ 9223372036854775807 := by omega
  have h4 : x.Burnt.length ≤ 9223372036854775807 := by omega
  simp [ic_state_orders_3, rs_state_orders_3, p_orders_3, cIdRight, h4, vcLoose, heapsOf]
def c_orders_3 : Ctr := C1 (fun (x : Tsk) => okT x) fun x => .bool (p_orders_3  x)
theorem known_orders_3 : Known Tryz.prog 106 c_orders_3 := known_C1 (fun x h => det_orders_3 x h) fun x => flat_bool _
abbrev Q_orders_3 : Type := FnC 106
theorem det_every_orders_3 (l : List Tsk) (q : Q_orders_3) (hl : l.length ≤ 9223372036854775807) (hp : okTs l) : Det Tryz.prog 93 [en l, en q] [] (.bool (l.all (p_orders_3 ))) [] := by
  refine det_finF mixed0 (knows_cons known_orders_3 knows_nil) ok_state_every_api_Task 1 (by simp) ?_
  simp [ic_state_every_api_Task, rs_state_every_api_Task]
  refine BackC.scanB Tsk.zero l (fun (i : Nat) (_ : Unit) => ⟨[(0, .view (l.map Cel.c)), (1, en q), (5, .int .i64 i)], []⟩) (fun _ _ r => l.all (p_orders_3 ) = r.all (p_orders_3 )) (fun i b r _ _ => ⟨Nat.zero_le _, lowS3 l q 0 1 5 _⟩) (by simp) (fun i a r b hi ha hd hG => ?_) fun b hG => ?_
  · have hne : ¬ i = l.length := by omega
    have h : okT a := hp a (mem_drop hd)
    rw [hG]
    cases hb : p_orders_3  a
    · simp [hi, ha, c_orders_3, hne, hb, h]
    · simp [hi, ha, c_orders_3, hne, hb, h]
      try omega
  · rw [hG]
    simp
def cE_orders_3 : Ctr := C2 (fun (l : List Tsk) (q : Q_orders_3) => l.length ≤ 9223372036854775807 ∧ okTs l) fun l q => .bool (l.all (p_orders_3 ))
theorem knownE_orders_3 : Known Tryz.prog 93 cE_orders_3 := known_C2 (fun l q h => det_every_orders_3 l q h.1 h.2) fun l q => flat_bool _
def p_orders_4  (x : Lse) : Bool := rises x.Want
theorem det_orders_4 (x : Lse)  (h : okL x) : Det Tryz.prog 107 [en x] [] (.bool (p_orders_4  x)) [] := by
  refine det_finF mixed0 (knows_cons known_IdRight knows_nil) ok_state_orders_4 1 (by simp) ?_
  have h1 : x.Want.length ≤ 9223372036854775807 := Nat.le_trans h (by decide)
  simp [ic_state_orders_4, rs_state_orders_4, p_orders_4, cIdRight, h1, vcLoose, heapsOf]
def c_orders_4 : Ctr := C1 (fun (x : Lse) => okL x) fun x => .bool (p_orders_4  x)
theorem known_orders_4 : Known Tryz.prog 107 c_orders_4 := known_C1 (fun x h => det_orders_4 x h) fun x => flat_bool _
abbrev Q_orders_4 : Type := FnC 107
theorem det_every_orders_4 (l : List Lse) (q : Q_orders_4) (hl : l.length ≤ 9223372036854775807) (hp : okLs l) : Det Tryz.prog 95 [en l, en q] [] (.bool (l.all (p_orders_4 ))) [] := by
  refine det_finF mixed0 (knows_cons known_orders_4 knows_nil) ok_state_every_api_Lease 1 (by simp) ?_
  simp [ic_state_every_api_Lease, rs_state_every_api_Lease]
  refine BackC.scanB Lse.zero l (fun (i : Nat) (_ : Unit) => ⟨[(0, .view (l.map Cel.c)), (1, en q), (5, .int .i64 i)], []⟩) (fun _ _ r => l.all (p_orders_4 ) = r.all (p_orders_4 )) (fun i b r _ _ => ⟨Nat.zero_le _, lowS3 l q 0 1 5 _⟩) (by simp) (fun i a r b hi ha hd hG => ?_) fun b hG => ?_
  · have hne : ¬ i = l.length := by omega
    have h : okL a := hp a (mem_drop hd)
    rw [hG]
    cases hb : p_orders_4  a
    · simp [hi, ha, c_orders_4, hne, hb, h]
    · simp [hi, ha, c_orders_4, hne, hb, h]
      try omega
  · rw [hG]
    simp
def cE_orders_4 : Ctr := C2 (fun (l : List Lse) (q : Q_orders_4) => l.length ≤ 9223372036854775807 ∧ okLs l) fun l q => .bool (l.all (p_orders_4 ))
theorem knownE_orders_4 : Known Tryz.prog 95 cE_orders_4 := known_C2 (fun l q h => det_every_orders_4 l q h.1 h.2) fun l q => flat_bool _
def p_within_3 (s : Stt) (r : Rul) (i : CFrom) (x : Tsk) : Bool := decide (specErr x.Sp = 0) && inR 1 6 x.Status && inR 0 s.Seq x.Seq && inR 0 s.Now x.Since && inR 0 r.Tries x.Lost && x.Burnt.all (inR i.v i.w)
theorem det_within_3 (x : Tsk) (s : Bx Stt) (r : Bx Rul) (i : Bx CFrom) (h : okT x) : Det Tryz.prog 117 [en x, en s, en r, en i] [] (.bool (p_within_3 s.v r.v i.v x)) [] := by
  refine det_finF mixed0 (knows_cons known_TaskCheck (knows_cons known_From (knows_cons known_From1 (knows_cons known_EveryI knows_nil)))) ok_state_within_3 1 (by simp) ?_
  have h1 := h.1
  have h2 := h.2
  have h3 : x.Sp.After.length ≤ 9223372036854775807 := by omega
  have h4 : x.Burnt.length ≤ 9223372036854775807 := by omega
  simp [ic_state_within_3, rs_state_within_3, p_within_3, cTaskCheck, cFrom, cFrom1, cEveryI, h1, h4, vcLoose, heapsOf]
def c_within_3 : Ctr := C4 (fun (x : Tsk) (s : Bx Stt) (r : Bx Rul) (i : Bx CFrom) => okT x) fun x s r i => .bool (p_within_3 s.v r.v i.v x)
theorem known_within_3 : Known Tryz.prog 117 c_within_3 := known_C4 (fun x s r i h => det_within_3 x s r i h) fun x s r i => flat_bool _
abbrev Q_within_3 : Type := Clo3 117 Stt Rul CFrom
theorem det_every_within_3 (l : List Tsk) (q : Q_within_3) (hl : l.length ≤ 9223372036854775807) (hp : okTs l) : Det Tryz.prog 93 [en l, en q] [] (.bool (l.all (p_within_3 q.v q.w q.y))) [] := by
  refine det_finF mixed0 (knows_cons known_within_3 knows_nil) ok_state_every_api_Task 1 (by simp) ?_
  simp [ic_state_every_api_Task, rs_state_every_api_Task]
  refine BackC.scanB Tsk.zero l (fun (i : Nat) (_ : Unit) => ⟨[(0, .view (l.map Cel.c)), (1, en q), (5, .int .i64 i)], []⟩) (fun _ _ r => l.all (p_within_3 q.v q.w q.y) = r.all (p_within_3 q.v q.w q.y)) (fun i b r _ _ => ⟨Nat.zero_le _, lowS3 l q 0 1 5 _⟩) (by simp) (fun i a r b hi ha hd hG => ?_) fun b hG => ?_
  · have hne : ¬ i = l.length := by omega
    have h : okT a := hp a (mem_drop hd)
    rw [hG]
    cases hb : p_within_3 q.v q.w q.y a
    · simp [hi, ha, c_within_3, hne, hb, h]
    · simp [hi, ha, c_within_3, hne, hb, h]
      try omega
  · rw [hG]
    simp
def cE_within_3 : Ctr := C2 (fun (l : List Tsk) (q : Q_within_3) => l.length ≤ 9223372036854775807 ∧ okTs l) fun l q => .bool (l.all (p_within_3 q.v q.w q.y))
theorem knownE_within_3 : Known Tryz.prog 93 cE_within_3 := known_C2 (fun l q h => det_every_within_3 l q h.1 h.2) fun l q => flat_bool _
def p_within_4 (s : Stt) (i : CFrom) (x : Lse) : Bool := inR 1 s.Token x.Token && [x.Task, x.Worker, x.Un].all (inR i.v i.w) && inR (-1) 2147483647 x.Due && inR 0 x.Want.length x.Got
theorem det_within_4 (x : Lse) (s : Bx Stt) (i : Bx CFrom) (h : okL x) : Det Tryz.prog 120 [en x, en s, en i] [] (.bool (p_within_4 s.v i.v x)) [] := by
  refine det_finF mixed0 (knows_cons known_From (knows_cons known_From1 (knows_cons known_EveryI knows_nil))) ok_state_within_4 1 (by simp) ?_
  have h1 : x.Want.length ≤ 9223372036854775807 := Nat.le_trans h (by decide)
  simp [ic_state_within_4, rs_state_within_4, p_within_4, cFrom, cFrom1, cEveryI, h1, vcLoose, heapsOf]
def c_within_4 : Ctr := C3 (fun (x : Lse) (s : Bx Stt) (i : Bx CFrom) => okL x) fun x s i => .bool (p_within_4 s.v i.v x)
theorem known_within_4 : Known Tryz.prog 120 c_within_4 := known_C3 (fun x s i h => det_within_4 x s i h) fun x s i => flat_bool _
abbrev Q_within_4 : Type := Clo2 120 Stt CFrom
theorem det_every_within_4 (l : List Lse) (q : Q_within_4) (hl : l.length ≤ 9223372036854775807) (hp : okLs l) : Det Tryz.prog 95 [en l, en q] [] (.bool (l.all (p_within_4 q.v q.w))) [] := by
  refine det_finF mixed0 (knows_cons known_within_4 knows_nil) ok_state_every_api_Lease 1 (by simp) ?_
  simp [ic_state_every_api_Lease, rs_state_every_api_Lease]
  refine BackC.scanB Lse.zero l (fun (i : Nat) (_ : Unit) => ⟨[(0, .view (l.map Cel.c)), (1, en q), (5, .int .i64 i)], []⟩) (fun _ _ r => l.all (p_within_4 q.v q.w) = r.all (p_within_4 q.v q.w)) (fun i b r _ _ => ⟨Nat.zero_le _, lowS3 l q 0 1 5 _⟩) (by simp) (fun i a r b hi ha hd hG => ?_) fun b hG => ?_
  · have hne : ¬ i = l.length := by omega
    have h : okL a := hp a (mem_drop hd)
    rw [hG]
    cases hb : p_within_4 q.v q.w a
    · simp [hi, ha, c_within_4, hne, hb, h]
    · simp [hi, ha, c_within_4, hne, hb, h]
      try omega
  · rw [hG]
    simp
def cE_within_4 : Ctr := C2 (fun (l : List Lse) (q : Q_within_4) => l.length ≤ 9223372036854775807 ∧ okLs l) fun l q => .bool (l.all (p_within_4 q.v q.w))
theorem knownE_within_4 : Known Tryz.prog 95 cE_within_4 := known_C2 (fun l q h => det_every_within_4 l q h.1 h.2) fun l q => flat_bool _
def p_within_5 (t : CFrom) (k : CFrom) (x : Lck) : Bool := inR t.v t.w x.Holder && x.Wait.all (inR k.v k.w)
theorem det_within_5 (x : Lck) (t : Bx CFrom) (k : Bx CFrom) (h : okK x) : Det Tryz.prog 121 [en x, en t, en k] [] (.bool (p_within_5 t.v k.v x)) [] := by
  refine det_finF mixed0 (knows_cons known_From1 (knows_cons known_EveryI knows_nil)) ok_state_within_5 1 (by simp) ?_
  have h1 : x.Wait.length ≤ 9223372036854775807 := Nat.le_trans h (by decide)
  simp [ic_state_within_5, rs_state_within_5, p_within_5, cFrom1, cEveryI, h1, vcLoose, heapsOf]
def c_within_5 : Ctr := C3 (fun (x : Lck) (t : Bx CFrom) (k : Bx CFrom) => okK x) fun x t k => .bool (p_within_5 t.v k.v x)
theorem known_within_5 : Known Tryz.prog 121 c_within_5 := known_C3 (fun x t k h => det_within_5 x t k h) fun x t k => flat_bool _
abbrev Q_within_5 : Type := Clo2 121 CFrom CFrom
theorem det_every_within_5 (l : List Lck) (q : Q_within_5) (hl : l.length ≤ 9223372036854775807) (hp : okKs l) : Det Tryz.prog 97 [en l, en q] [] (.bool (l.all (p_within_5 q.v q.w))) [] := by
  refine det_finF mixed0 (knows_cons known_within_5 knows_nil) ok_state_every_api_Lock 1 (by simp) ?_
  simp [ic_state_every_api_Lock, rs_state_every_api_Lock]
  refine BackC.scanB Lck.zero l (fun (i : Nat) (_ : Unit) => ⟨[(0, .view (l.map Cel.c)), (1, en q), (5, .int .i64 i)], []⟩) (fun _ _ r => l.all (p_within_5 q.v q.w) = r.all (p_within_5 q.v q.w)) (fun i b r _ _ => ⟨Nat.zero_le _, lowS3 l q 0 1 5 _⟩) (by simp) (fun i a r b hi ha hd hG => ?_) fun b hG => ?_
  · have hne : ¬ i = l.length := by omega
    have h : okK a := hp a (mem_drop hd)
    rw [hG]
    cases hb : p_within_5 q.v q.w a
    · simp [hi, ha, c_within_5, hne, hb, h]
    · simp [hi, ha, c_within_5, hne, hb, h]
      try omega
  · rw [hG]
    simp
def cE_within_5 : Ctr := C2 (fun (l : List Lck) (q : Q_within_5) => l.length ≤ 9223372036854775807 ∧ okKs l) fun l q => .bool (l.all (p_within_5 q.v q.w))
theorem knownE_within_5 : Known Tryz.prog 97 cE_within_5 := known_C2 (fun l q h => det_every_within_5 l q h.1 h.2) fun l q => flat_bool _

theorem det_orders_1 (x : Tsk) : Det Tryz.prog 101 [en x] [] (en x.Sp.ID) [] := by
  refine det_finF mixed0 knows_nil ok_state_orders_1 1 (by simp) ?_
  simp [ic_state_orders_1, rs_state_orders_1]
def c_orders_1 : Ctr := C1 (fun x : Tsk => True) fun x => .int .i64 x.Sp.ID
theorem known_orders_1 : Known Tryz.prog 101 c_orders_1 := known_C1 (fun x _ => by simpa using det_orders_1 x) fun x => flat_int _ _
abbrev Q_orders_1 : Type := FnC 101
theorem det_num_orders_1 (l : List Tsk) (q : Q_orders_1) (hl : l.length ≤ 1073741824) : Det Tryz.prog 100 [en l, en q] [] (en (l.map fun x => x.Sp.ID)) [] := by
  refine det_finF mixed0 (knows_cons known_orders_1 knows_nil) ok_state_numbers_api_Task 2 (by simp) ?_
  simp [-List.map_map, ic_state_numbers_api_Task, rs_state_numbers_api_Task]
  refine LoopC.scanR Tsk.zero l (fun i (b : List Int) => ⟨[(1, .fn 101 [] []), (5, bs 0 (b.map Cel.c)), (8, .view (l.map Cel.c)), (9, .int .i64 l.length), (10, .int .i64 i)], [bob 1 (b.map Cel.c)]⟩) (fun i b r => b.length = i ∧ l.map (fun x => x.Sp.ID) = b ++ r.map fun x => x.Sp.ID) [] [0] (by simp [atR]) (by simp) (fun i a r b hi ha hd ⟨hb, hG⟩ => ?_) fun b ⟨hb, hG⟩ => ?_
  · simp [hi, ha, c_orders_1]
    and_intros <;> first | omega | skip
    refine ⟨b ++ [a.Sp.ID], ⟨[2], by simp [atR]⟩, by simp [hb], by simp [hG]⟩
  · simp at hG
    simp [-List.map_map, hG]
def c_num_orders_1 : Ctr := V2 (fun (l : List Tsk) (q : Q_orders_1) => l.length ≤ 1073741824) fun l _ => en (l.map fun x => x.Sp.ID)
theorem known_num_orders_1 : Known Tryz.prog 100 c_num_orders_1 := known_V2 (fun l q h => det_num_orders_1 l q h) fun l q _ => closed_en _
theorem det_within_1 (x : Tsk) : Det Tryz.prog 115 [en x] [] (en x.Seq) [] := by
  refine det_finF mixed0 knows_nil ok_state_within_1 1 (by simp) ?_
  simp [ic_state_within_1, rs_state_within_1]
def c_within_1 : Ctr := C1 (fun x : Tsk => True) fun x => .int .i64 x.Seq
theorem known_within_1 : Known Tryz.prog 115 c_within_1 := known_C1 (fun x _ => by simpa using det_within_1 x) fun x => flat_int _ _
abbrev Q_within_1 : Type := FnC 115
theorem det_num_within_1 (l : List Tsk) (q : Q_within_1) (hl : l.length ≤ 1073741824) : Det Tryz.prog 100 [en l, en q] [] (ow 0 ((l.map fun x => x.Seq).map Cel.c)) [bob 1 ((l.map fun x => x.Seq).map Cel.c)] := by
  refine det_finO mixed0 (knows_cons known_within_1 knows_nil) ok_state_numbers_api_Task (by simp) ?_
  simp [-List.map_map, ic_state_numbers_api_Task, rs_state_numbers_api_Task]
  refine LoopC.scanR Tsk.zero l (fun i (b : List Int) => ⟨[(1, .fn 115 [] []), (5, bs 0 (b.map Cel.c)), (8, .view (l.map Cel.c)), (9, .int .i64 l.length), (10, .int .i64 i)], [bob 1 (b.map Cel.c)]⟩) (fun i b r => b.length = i ∧ l.map (fun x => x.Seq) = b ++ r.map fun x => x.Seq) [] [0] (by simp [atR]) (by simp) (fun i a r b hi ha hd ⟨hb, hG⟩ => ?_) fun b ⟨hb, hG⟩ => ?_
  · simp [hi, ha, c_within_1]
    and_intros <;> first | omega | skip
    refine ⟨b ++ [a.Seq], ⟨[2], by simp [atR]⟩, by simp [hb], by simp [hG]⟩
  · simp at hG
    simp [-List.map_map, hG]
    rcases b with _ | ⟨y, b⟩
    · exact ⟨[0], by simp [emp]⟩
    · exact ⟨[0], by simp⟩
def c_num_within_1 : Ctr := O2 (fun (l : List Tsk) (q : Q_within_1) => l.length ≤ 1073741824) (fun l _ => ow 0 ((l.map fun x => x.Seq).map Cel.c)) fun l _ => [bob 1 ((l.map fun x => x.Seq).map Cel.c)]
theorem known_num_within_1 : Known Tryz.prog 100 c_num_within_1 := known_O2 (fun l q h => det_num_within_1 l q h) fun l q => by simp [-List.map_map]
theorem det_hand (x : Hand) : Det Tryz.prog 103 [en x] [] (en x.ID) [] := by
  refine det_finF mixed0 knows_nil ok_state_hand 1 (by simp) ?_
  simp [ic_state_hand, rs_state_hand]
def c_hand : Ctr := C1 (fun x : Hand => True) fun x => .int .i64 x.ID
theorem known_hand : Known Tryz.prog 103 c_hand := known_C1 (fun x _ => by simpa using det_hand x) fun x => flat_int _ _
abbrev Q_hand : Type := FnC 103
theorem det_num_hand (l : List Hand) (q : Q_hand) (hl : l.length ≤ 1073741824) : Det Tryz.prog 102 [en l, en q] [] (en (l.map fun x => x.ID)) [] := by
  refine det_finF mixed0 (knows_cons known_hand knows_nil) ok_state_numbers_api_Hand 2 (by simp) ?_
  simp [-List.map_map, ic_state_numbers_api_Hand, rs_state_numbers_api_Hand]
  refine LoopC.scanR Hand.zero l (fun i (b : List Int) => ⟨[(1, .fn 103 [] []), (5, bs 0 (b.map Cel.c)), (8, .view (l.map Cel.c)), (9, .int .i64 l.length), (10, .int .i64 i)], [bob 1 (b.map Cel.c)]⟩) (fun i b r => b.length = i ∧ l.map (fun x => x.ID) = b ++ r.map fun x => x.ID) [] [0] (by simp [atR]) (by simp) (fun i a r b hi ha hd ⟨hb, hG⟩ => ?_) fun b ⟨hb, hG⟩ => ?_
  · simp [hi, ha, c_hand]
    and_intros <;> first | omega | skip
    refine ⟨b ++ [a.ID], ⟨[2], by simp [atR]⟩, by simp [hb], by simp [hG]⟩
  · simp at hG
    simp [-List.map_map, hG]
def c_num_hand : Ctr := V2 (fun (l : List Hand) (q : Q_hand) => l.length ≤ 1073741824) fun l _ => en (l.map fun x => x.ID)
theorem known_num_hand : Known Tryz.prog 102 c_num_hand := known_V2 (fun l q h => det_num_hand l q h) fun l q _ => closed_en _
theorem det_orders_2 (x : Lse) : Det Tryz.prog 105 [en x] [] (en x.Token) [] := by
  refine det_finF mixed0 knows_nil ok_state_orders_2 1 (by simp) ?_
  simp [ic_state_orders_2, rs_state_orders_2]
def c_orders_2 : Ctr := C1 (fun x : Lse => True) fun x => .int .i64 x.Token
theorem known_orders_2 : Known Tryz.prog 105 c_orders_2 := known_C1 (fun x _ => by simpa using det_orders_2 x) fun x => flat_int _ _
abbrev Q_orders_2 : Type := FnC 105
theorem det_num_orders_2 (l : List Lse) (q : Q_orders_2) (hl : l.length ≤ 1073741824) : Det Tryz.prog 104 [en l, en q] [] (en (l.map fun x => x.Token)) [] := by
  refine det_finF mixed0 (knows_cons known_orders_2 knows_nil) ok_state_numbers_api_Lease 2 (by simp) ?_
  simp [-List.map_map, ic_state_numbers_api_Lease, rs_state_numbers_api_Lease]
  refine LoopC.scanR Lse.zero l (fun i (b : List Int) => ⟨[(1, .fn 105 [] []), (5, bs 0 (b.map Cel.c)), (8, .view (l.map Cel.c)), (9, .int .i64 l.length), (10, .int .i64 i)], [bob 1 (b.map Cel.c)]⟩) (fun i b r => b.length = i ∧ l.map (fun x => x.Token) = b ++ r.map fun x => x.Token) [] [0] (by simp [atR]) (by simp) (fun i a r b hi ha hd ⟨hb, hG⟩ => ?_) fun b ⟨hb, hG⟩ => ?_
  · simp [hi, ha, c_orders_2]
    and_intros <;> first | omega | skip
    refine ⟨b ++ [a.Token], ⟨[2], by simp [atR]⟩, by simp [hb], by simp [hG]⟩
  · simp at hG
    simp [-List.map_map, hG]
def c_num_orders_2 : Ctr := V2 (fun (l : List Lse) (q : Q_orders_2) => l.length ≤ 1073741824) fun l _ => en (l.map fun x => x.Token)
theorem known_num_orders_2 : Known Tryz.prog 104 c_num_orders_2 := known_V2 (fun l q h => det_num_orders_2 l q h) fun l q _ => closed_en _
theorem det_orders_5 (x : Lck) : Det Tryz.prog 110 [en x] [] (en x.ID) [] := by
  refine det_finF mixed0 knows_nil ok_state_orders_5 1 (by simp) ?_
  simp [ic_state_orders_5, rs_state_orders_5]
def c_orders_5 : Ctr := C1 (fun x : Lck => True) fun x => .int .i64 x.ID
theorem known_orders_5 : Known Tryz.prog 110 c_orders_5 := known_C1 (fun x _ => by simpa using det_orders_5 x) fun x => flat_int _ _
abbrev Q_orders_5 : Type := FnC 110
theorem det_num_orders_5 (l : List Lck) (q : Q_orders_5) (hl : l.length ≤ 1073741824) : Det Tryz.prog 109 [en l, en q] [] (en (l.map fun x => x.ID)) [] := by
  refine det_finF mixed0 (knows_cons known_orders_5 knows_nil) ok_state_numbers_api_Lock 2 (by simp) ?_
  simp [-List.map_map, ic_state_numbers_api_Lock, rs_state_numbers_api_Lock]
  refine LoopC.scanR Lck.zero l (fun i (b : List Int) => ⟨[(1, .fn 110 [] []), (5, bs 0 (b.map Cel.c)), (8, .view (l.map Cel.c)), (9, .int .i64 l.length), (10, .int .i64 i)], [bob 1 (b.map Cel.c)]⟩) (fun i b r => b.length = i ∧ l.map (fun x => x.ID) = b ++ r.map fun x => x.ID) [] [0] (by simp [atR]) (by simp) (fun i a r b hi ha hd ⟨hb, hG⟩ => ?_) fun b ⟨hb, hG⟩ => ?_
  · simp [hi, ha, c_orders_5]
    and_intros <;> first | omega | skip
    refine ⟨b ++ [a.ID], ⟨[2], by simp [atR]⟩, by simp [hb], by simp [hG]⟩
  · simp at hG
    simp [-List.map_map, hG]
def c_num_orders_5 : Ctr := V2 (fun (l : List Lck) (q : Q_orders_5) => l.length ≤ 1073741824) fun l _ => en (l.map fun x => x.ID)
theorem known_num_orders_5 : Known Tryz.prog 109 c_num_orders_5 := known_V2 (fun l q h => det_num_orders_5 l q h) fun l q _ => closed_en _
theorem det_orders_6 (x : Ais) : Det Tryz.prog 112 [en x] [] (en x.ID) [] := by
  refine det_finF mixed0 knows_nil ok_state_orders_6 1 (by simp) ?_
  simp [ic_state_orders_6, rs_state_orders_6]
def c_orders_6 : Ctr := C1 (fun x : Ais => True) fun x => .int .i64 x.ID
theorem known_orders_6 : Known Tryz.prog 112 c_orders_6 := known_C1 (fun x _ => by simpa using det_orders_6 x) fun x => flat_int _ _
abbrev Q_orders_6 : Type := FnC 112
theorem det_num_orders_6 (l : List Ais) (q : Q_orders_6) (hl : l.length ≤ 1073741824) : Det Tryz.prog 111 [en l, en q] [] (en (l.map fun x => x.ID)) [] := by
  refine det_finF mixed0 (knows_cons known_orders_6 knows_nil) ok_state_numbers_api_Aisle 2 (by simp) ?_
  simp [-List.map_map, ic_state_numbers_api_Aisle, rs_state_numbers_api_Aisle]
  refine LoopC.scanR Ais.zero l (fun i (b : List Int) => ⟨[(1, .fn 112 [] []), (5, bs 0 (b.map Cel.c)), (8, .view (l.map Cel.c)), (9, .int .i64 l.length), (10, .int .i64 i)], [bob 1 (b.map Cel.c)]⟩) (fun i b r => b.length = i ∧ l.map (fun x => x.ID) = b ++ r.map fun x => x.ID) [] [0] (by simp [atR]) (by simp) (fun i a r b hi ha hd ⟨hb, hG⟩ => ?_) fun b ⟨hb, hG⟩ => ?_
  · simp [hi, ha, c_orders_6]
    and_intros <;> first | omega | skip
    refine ⟨b ++ [a.ID], ⟨[2], by simp [atR]⟩, by simp [hb], by simp [hG]⟩
  · simp at hG
    simp [-List.map_map, hG]
def c_num_orders_6 : Ctr := V2 (fun (l : List Ais) (q : Q_orders_6) => l.length ≤ 1073741824) fun l _ => en (l.map fun x => x.ID)
theorem known_num_orders_6 : Known Tryz.prog 111 c_num_orders_6 := known_V2 (fun l q h => det_num_orders_6 l q h) fun l q _ => closed_en _
def cEqHands : Ctr := C2 (fun l k : List Hand => l.length ≤ 9223372036854775807) fun l k => .bool (decide (l = k))
end Go.Proofs.YtnckibgcjgeekaaGreat.Sx
