/- Functions of package state that go through lists with closures; numbers of things, lists that are alike, copies. No conditions: a kit of our own. -/
import Derived.Test.YtfjidignjjaihaaFnC2
import Derived.Test.YtfjidignjjaihaaTy13
import Derived.Test.YtfjidignjjaihaaFnA2
namespace Go.Proofs.Ytfjidignjjaihaa.Sx
open Go Go.RowKit
set_option linter.unusedVariables false
set_option linter.unusedSimpArgs false

def p_fits_1  (x : Tsk) : Bool := decide (x.Burnt.length ≤ 16)
theorem det_fits_1 (x : Tsk)  (h : True) : Det Try.prog 154 [en x] [] (.bool (p_fits_1  x)) [] := by
  refine det_finF mixed0 knows_nil ok_state_fits_1 1 (by simp) ?_
  simp [ic_state_fits_1, rs_state_fits_1, p_fits_1]
def c_fits_1 : Ctr := C1 (fun (x : Tsk) => True) fun x => .bool (p_fits_1  x)
theorem known_fits_1 : Known Try.prog 154 c_fits_1 := known_C1 (fun x h => det_fits_1 x h) fun x => flat_bool _
abbrev Q_fits_1 : Type := FnC 154
theorem det_every_fits_1 (l : List Tsk) (q : Q_fits_1) (hl : l.length ≤ 9223372036854775807) (hp : True) : Det Try.prog 153 [en l, en q] [] (.bool (l.all (p_fits_1 ))) [] := by
  refine det_finF mixed0 (knows_cons known_fits_1 knows_nil) ok_state_every_api_Task 1 (by simp) ?_
  simp [ic_state_every_api_Task, rs_state_every_api_Task]
  refine BackC.scanB Tsk.zero l (fun (i : Nat) (_ : Unit) => ⟨[(0, .view (l.map Cel.c)), (1, en q), (5, .int .i64 i)], []⟩) (fun _ _ r => l.all (p_fits_1 ) = r.all (p_fits_1 )) (fun i b r _ _ => ⟨Nat.zero_le _, lowS3 l q 0 1 5 _⟩) (by simp) (fun i a r b hi ha hd hG => ?_) fun b hG => ?_
  · have hne : ¬ i = l.length := by omega
    have h : True := trivial
    rw [hG]
    cases hb : p_fits_1  a
    · simp [hi, ha, c_fits_1, hne, hb, h]
    · simp [hi, ha, c_fits_1, hne, hb, h]
      try omega
  · rw [hG]
    simp
def cE_fits_1 : Ctr := C2 (fun (l : List Tsk) (q : Q_fits_1) => l.length ≤ 9223372036854775807 ∧ True) fun l q => .bool (l.all (p_fits_1 ))
theorem knownE_fits_1 : Known Try.prog 153 cE_fits_1 := known_C2 (fun l q h => det_every_fits_1 l q h.1 h.2) fun l q => flat_bool _
def p_fits_2 (r : Rul) (x : Lse) : Bool := decide (x.Want.length ≤ r.Aisles.length)
theorem det_fits_2 (x : Lse) (r : Bx Rul) (h : True) : Det Try.prog 156 [en x, en r] [] (.bool (p_fits_2 r.v x)) [] := by
  refine det_finF mixed0 knows_nil ok_state_fits_2 1 (by simp) ?_
  simp [ic_state_fits_2, rs_state_fits_2, p_fits_2]
def c_fits_2 : Ctr := C2 (fun (x : Lse) (r : Bx Rul) => True) fun x r => .bool (p_fits_2 r.v x)
theorem known_fits_2 : Known Try.prog 156 c_fits_2 := known_C2 (fun x r h => det_fits_2 x r h) fun x r => flat_bool _
abbrev Q_fits_2 : Type := Clo1 156 Rul
theorem det_every_fits_2 (l : List Lse) (q : Q_fits_2) (hl : l.length ≤ 9223372036854775807) (hp : True) : Det Try.prog 155 [en l, en q] [] (.bool (l.all (p_fits_2 q.v))) [] := by
  refine det_finF mixed0 (knows_cons known_fits_2 knows_nil) ok_state_every_api_Lease 1 (by simp) ?_
  simp [ic_state_every_api_Lease, rs_state_every_api_Lease]
  refine BackC.scanB Lse.zero l (fun (i : Nat) (_ : Unit) => ⟨[(0, .view (l.map Cel.c)), (1, en q), (5, .int .i64 i)], []⟩) (fun _ _ r => l.all (p_fits_2 q.v) = r.all (p_fits_2 q.v)) (fun i b r _ _ => ⟨Nat.zero_le _, lowS3 l q 0 1 5 _⟩) (by simp) (fun i a r b hi ha hd hG => ?_) fun b hG => ?_
  · have hne : ¬ i = l.length := by omega
    have h : True := trivial
    rw [hG]
    cases hb : p_fits_2 q.v a
    · simp [hi, ha, c_fits_2, hne, hb, h]
    · simp [hi, ha, c_fits_2, hne, hb, h]
      try omega
  · rw [hG]
    simp
def cE_fits_2 : Ctr := C2 (fun (l : List Lse) (q : Q_fits_2) => l.length ≤ 9223372036854775807 ∧ True) fun l q => .bool (l.all (p_fits_2 q.v))
theorem knownE_fits_2 : Known Try.prog 155 cE_fits_2 := known_C2 (fun l q h => det_every_fits_2 l q h.1 h.2) fun l q => flat_bool _
def p_fits_3  (x : Lck) : Bool := decide (x.Wait.length ≤ 64)
theorem det_fits_3 (x : Lck)  (h : True) : Det Try.prog 158 [en x] [] (.bool (p_fits_3  x)) [] := by
  refine det_finF mixed0 knows_nil ok_state_fits_3 1 (by simp) ?_
  simp [ic_state_fits_3, rs_state_fits_3, p_fits_3]
def c_fits_3 : Ctr := C1 (fun (x : Lck) => True) fun x => .bool (p_fits_3  x)
theorem known_fits_3 : Known Try.prog 158 c_fits_3 := known_C1 (fun x h => det_fits_3 x h) fun x => flat_bool _
abbrev Q_fits_3 : Type := FnC 158
theorem det_every_fits_3 (l : List Lck) (q : Q_fits_3) (hl : l.length ≤ 9223372036854775807) (hp : True) : Det Try.prog 157 [en l, en q] [] (.bool (l.all (p_fits_3 ))) [] := by
  refine det_finF mixed0 (knows_cons known_fits_3 knows_nil) ok_state_every_api_Lock 1 (by simp) ?_
  simp [ic_state_every_api_Lock, rs_state_every_api_Lock]
  refine BackC.scanB Lck.zero l (fun (i : Nat) (_ : Unit) => ⟨[(0, .view (l.map Cel.c)), (1, en q), (5, .int .i64 i)], []⟩) (fun _ _ r => l.all (p_fits_3 ) = r.all (p_fits_3 )) (fun i b r _ _ => ⟨Nat.zero_le _, lowS3 l q 0 1 5 _⟩) (by simp) (fun i a r b hi ha hd hG => ?_) fun b hG => ?_
  · have hne : ¬ i = l.length := by omega
    have h : True := trivial
    rw [hG]
    cases hb : p_fits_3  a
    · simp [hi, ha, c_fits_3, hne, hb, h]
    · simp [hi, ha, c_fits_3, hne, hb, h]
      try omega
  · rw [hG]
    simp
def cE_fits_3 : Ctr := C2 (fun (l : List Lck) (q : Q_fits_3) => l.length ≤ 9223372036854775807 ∧ True) fun l q => .bool (l.all (p_fits_3 ))
theorem knownE_fits_3 : Known Try.prog 157 cE_fits_3 := known_C2 (fun l q h => det_every_fits_3 l q h.1 h.2) fun l q => flat_bool _
def p_orders_3  (x : Tsk) : Bool := rises x.Burnt
theorem det_orders_3 (x : Tsk)  (h : okT x) : Det Try.prog 165 [en x] [] (.bool (p_orders_3  x)) [] := by
  refine det_finF mixed0 (knows_cons known_IdRight knows_nil) ok_state_orders_3 1 (by simp) ?_
  have h1 := h.1
  have h2 := h.2
  have h3 : x.Sp.After.length ≤ 9223372036854775807 := by omega
  have h4 : x.Burnt.length ≤ 9223372036854775807 := by omega
  simp [ic_state_orders_3, rs_state_orders_3, p_orders_3, cIdRight, h4, vcLoose, heapsOf]
def c_orders_3 : Ctr := C1 (fun (x : Tsk) => okT x) fun x => .bool (p_orders_3  x)
theorem known_orders_3 : Known Try.prog 165 c_orders_3 := known_C1 (fun x h => det_orders_3 x h) fun x => flat_bool _
abbrev Q_orders_3 : Type := FnC 165
theorem det_every_orders_3 (l : List Tsk) (q : Q_orders_3) (hl : l.length ≤ 9223372036854775807) (hp : okTs l) : Det Try.prog 153 [en l, en q] [] (.bool (l.all (p_orders_3 ))) [] := by
  refine det_finF mixed0 (knows_cons known_orders_3 knows_nil) ok_state_every_api_Task 1 (by simp) ?_
  simp [ic_state_every_api_Task, rs_state_every_api_Task]
  refine BackC.scanB Tsk.zero l (fun (i : Nat) (_ : Unit) => ⟨[(0, .view (l.map Cel.c)), (1, en q), (5, .int .i64 i)], []⟩) (fun _ _ r => l.all (p_orders_3 ) = r.all (p_orders_3 )) (fun i b r _ _ => ⟨Nat.zero_le _, lowS3 l q 0 1 5 _⟩) (by simp) (fun i a r b hi ha hd hG => ?_) fun b hG => ?_
  · have hne : ¬ i = l.length := by omega
    have h : okT a := hp a (mem_drop hd)
    rw [hG]
    cases hb : p_orders_3  a
    · simp [hi, ha, c_orders_3, hne, hb, h]
    · simp [hi, ha, c_orders_3, hne, hb, h]
      try omega
  · rw [hG]
    simp
def cE_orders_3 : Ctr := C2 (fun (l : List Tsk) (q : Q_orders_3) => l.length ≤ 9223372036854775807 ∧ okTs l) fun l q => .bool (l.all (p_orders_3 ))
theorem knownE_orders_3 : Known Try.prog 153 cE_orders_3 := known_C2 (fun l q h => det_every_orders_3 l q h.1 h.2) fun l q => flat_bool _
def p_orders_4  (x : Lse) : Bool := rises x.Want
theorem det_orders_4 (x : Lse)  (h : okL x) : Det Try.prog 166 [en x] [] (.bool (p_orders_4  x)) [] := by
  refine det_finF mixed0 (knows_cons known_IdRight knows_nil) ok_state_orders_4 1 (by simp) ?_
  have h1 : x.Want.length ≤ 9223372036854775807 := Nat.le_trans h (by decide)
  simp [ic_state_orders_4, rs_state_orders_4, p_orders_4, cIdRight, h1, vcLoose, heapsOf]
def c_orders_4 : Ctr := C1 (fun (x : Lse) => okL x) fun x => .bool (p_orders_4  x)
theorem known_orders_4 : Known Try.prog 166 c_orders_4 := known_C1 (fun x h => det_orders_4 x h) fun x => flat_bool _
abbrev Q_orders_4 : Type := FnC 166
theorem det_every_orders_4 (l : List Lse) (q : Q_orders_4) (hl : l.length ≤ 9223372036854775807) (hp : okLs l) : Det Try.prog 155 [en l, en q] [] (.bool (l.all (p_orders_4 ))) [] := by
  refine det_finF mixed0 (knows_cons known_orders_4 knows_nil) ok_state_every_api_Lease 1 (by simp) ?_
  simp [ic_state_every_api_Lease, rs_state_every_api_Lease]
  refine BackC.scanB Lse.zero l (fun (i : Nat) (_ : Unit) => ⟨[(0, .view (l.map Cel.c)), (1, en q), (5, .int .i64 i)], []⟩) (fun _ _ r => l.all (p_orders_4 ) = r.all (p_orders_4 )) (fun i b r _ _ => ⟨Nat.zero_le _, lowS3 l q 0 1 5 _⟩) (by simp) (fun i a r b hi ha hd hG => ?_) fun b hG => ?_
  · have hne : ¬ i = l.length := by omega
    have h : okL a := hp a (mem_drop hd)
    rw [hG]
    cases hb : p_orders_4  a
    · simp [hi, ha, c_orders_4, hne, hb, h]
    · simp [hi, ha, c_orders_4, hne, hb, h]
      try omega
  · rw [hG]
    simp
def cE_orders_4 : Ctr := C2 (fun (l : List Lse) (q : Q_orders_4) => l.length ≤ 9223372036854775807 ∧ okLs l) fun l q => .bool (l.all (p_orders_4 ))
theorem knownE_orders_4 : Known Try.prog 155 cE_orders_4 := known_C2 (fun l q h => det_every_orders_4 l q h.1 h.2) fun l q => flat_bool _
def p_within_3 (s : Stt) (r : Rul) (i : CFrom) (x : Tsk) : Bool := decide (specErr x.Sp = 0) && inR 1 6 x.Status && inR 0 s.Seq x.Seq && inR 0 s.Now x.Since && inR 0 r.Tries x.Lost && x.Burnt.all (inR i.v i.w)
theorem det_within_3 (x : Tsk) (s : Bx Stt) (r : Bx Rul) (i : Bx CFrom) (h : okT x) : Det Try.prog 175 [en x, en s, en r, en i] [] (.bool (p_within_3 s.v r.v i.v x)) [] := by
  refine det_finF mixed0 (knows_cons known_TaskCheck (knows_cons known_From (knows_cons known_From1 (knows_cons known_EveryI knows_nil)))) ok_state_within_3 1 (by simp) ?_
  have h1 := h.1
  have h2 := h.2
  have h3 : x.Sp.After.length ≤ 9223372036854775807 := by omega
  have h4 : x.Burnt.length ≤ 9223372036854775807 := by omega
  simp [ic_state_within_3, rs_state_within_3, p_within_3, cTaskCheck, cFrom, cFrom1, cEveryI, h1, h4, vcLoose, heapsOf]
def c_within_3 : Ctr := C4 (fun (x : Tsk) (s : Bx Stt) (r : Bx Rul) (i : Bx CFrom) => okT x) fun x s r i => .bool (p_within_3 s.v r.v i.v x)
theorem known_within_3 : Known Try.prog 175 c_within_3 := known_C4 (fun x s r i h => det_within_3 x s r i h) fun x s r i => flat_bool _
abbrev Q_within_3 : Type := Clo3 175 Stt Rul CFrom
theorem det_every_within_3 (l : List Tsk) (q : Q_within_3) (hl : l.length ≤ 9223372036854775807) (hp : okTs l) : Det Try.prog 153 [en l, en q] [] (.bool (l.all (p_within_3 q.v q.w q.y))) [] := by
  refine det_finF mixed0 (knows_cons known_within_3 knows_nil) ok_state_every_api_Task 1 (by simp) ?_
  simp [ic_state_every_api_Task, rs_state_every_api_Task]
  refine BackC.scanB Tsk.zero l (fun (i : Nat) (_ : Unit) => ⟨[(0, .view (l.map Cel.c)), (1, en q), (5, .int .i64 i)], []⟩) (fun _ _ r => l.all (p_within_3 q.v q.w q.y) = r.all (p_within_3 q.v q.w q.y)) (fun i b r _ _ => ⟨Nat.zero_le _, lowS3 l q 0 1 5 _⟩) (by simp) (fun i a r b hi ha hd hG => ?_) fun b hG => ?_
  · have hne : ¬ i = l.length := by omega
    have h : okT a := hp a (mem_drop hd)
    rw [hG]
    cases hb : p_within_3 q.v q.w q.y a
    · simp [hi, ha, c_within_3, hne, hb, h]
    · simp [hi, ha, c_within_3, hne, hb, h]
      try omega
  · rw [hG]
    simp
def cE_within_3 : Ctr := C2 (fun (l : List Tsk) (q : Q_within_3) => l.length ≤ 9223372036854775807 ∧ okTs l) fun l q => .bool (l.all (p_within_3 q.v q.w q.y))
theorem knownE_within_3 : Known Try.prog 153 cE_within_3 := known_C2 (fun l q h => det_every_within_3 l q h.1 h.2) fun l q => flat_bool _
def p_within_4 (s : Stt) (i : CFrom) (x : Lse) : Bool := inR 1 s.Token x.Token && [x.Task, x.Worker, x.Un].all (inR i.v i.w) && inR (-1) 2147483647 x.Due && inR 0 x.Want.length x.Got
theorem det_within_4 (x : Lse) (s : Bx Stt) (i : Bx CFrom) (h : okL x) : Det Try.prog 177 [en x, en s, en i] [] (.bool (p_within_4 s.v i.v x)) [] := by
  refine det_finF mixed0 (knows_cons known_From (knows_cons known_From1 (knows_cons known_EveryI knows_nil))) ok_state_within_4 1 (by simp) ?_
  have h1 : x.Want.length ≤ 9223372036854775807 := Nat.le_trans h (by decide)
  simp [ic_state_within_4, rs_state_within_4, p_within_4, cFrom, cFrom1, cEveryI, h1, vcLoose, heapsOf]
def c_within_4 : Ctr := C3 (fun (x : Lse) (s : Bx Stt) (i : Bx CFrom) => okL x) fun x s i => .bool (p_within_4 s.v i.v x)
theorem known_within_4 : Known Try.prog 177 c_within_4 := known_C3 (fun x s i h => det_within_4 x s i h) fun x s i => flat_bool _
abbrev Q_within_4 : Type := Clo2 177 Stt CFrom
theorem det_every_within_4 (l : List Lse) (q : Q_within_4) (hl : l.length ≤ 9223372036854775807) (hp : okLs l) : Det Try.prog 155 [en l, en q] [] (.bool (l.all (p_within_4 q.v q.w))) [] := by
  refine det_finF mixed0 (knows_cons known_within_4 knows_nil) ok_state_every_api_Lease 1 (by simp) ?_
  simp [ic_state_every_api_Lease, rs_state_every_api_Lease]
  refine BackC.scanB Lse.zero l (fun (i : Nat) (_ : Unit) => ⟨[(0, .view (l.map Cel.c)), (1, en q), (5, .int .i64 i)], []⟩) (fun _ _ r => l.all (p_within_4 q.v q.w) = r.all (p_within_4 q.v q.w)) (fun i b r _ _ => ⟨Nat.zero_le _, lowS3 l q 0 1 5 _⟩) (by simp) (fun i a r b hi ha hd hG => ?_) fun b hG => ?_
  · have hne : ¬ i = l.length := by omega
    have h : okL a := hp a (mem_drop hd)
    rw [hG]
    cases hb : p_within_4 q.v q.w a
    · simp [hi, ha, c_within_4, hne, hb, h]
    · simp [hi, ha, c_within_4, hne, hb, h]
      try omega
  · rw [hG]
    simp
def cE_within_4 : Ctr := C2 (fun (l : List Lse) (q : Q_within_4) => l.length ≤ 9223372036854775807 ∧ okLs l) fun l q => .bool (l.all (p_within_4 q.v q.w))
theorem knownE_within_4 : Known Try.prog 155 cE_within_4 := known_C2 (fun l q h => det_every_within_4 l q h.1 h.2) fun l q => flat_bool _
def p_within_5 (t : CFrom) (k : CFrom) (x : Lck) : Bool := inR t.v t.w x.Holder && x.Wait.all (inR k.v k.w)
theorem det_within_5 (x : Lck) (t : Bx CFrom) (k : Bx CFrom) (h : okK x) : Det Try.prog 178 [en x, en t, en k] [] (.bool (p_within_5 t.v k.v x)) [] := by
  refine det_finF mixed0 (knows_cons known_From1 (knows_cons known_EveryI knows_nil)) ok_state_within_5 1 (by simp) ?_
  have h1 : x.Wait.length ≤ 9223372036854775807 := Nat.le_trans h (by decide)
  simp [ic_state_within_5, rs_state_within_5, p_within_5, cFrom1, cEveryI, h1, vcLoose, heapsOf]
def c_within_5 : Ctr := C3 (fun (x : Lck) (t : Bx CFrom) (k : Bx CFrom) => okK x) fun x t k => .bool (p_within_5 t.v k.v x)
theorem known_within_5 : Known Try.prog 178 c_within_5 := known_C3 (fun x t k h => det_within_5 x t k h) fun x t k => flat_bool _
abbrev Q_within_5 : Type := Clo2 178 CFrom CFrom
theorem det_every_within_5 (l : List Lck) (q : Q_within_5) (hl : l.length ≤ 9223372036854775807) (hp : okKs l) : Det Try.prog 157 [en l, en q] [] (.bool (l.all (p_within_5 q.v q.w))) [] := by
  refine det_finF mixed0 (knows_cons known_within_5 knows_nil) ok_state_every_api_Lock 1 (by simp) ?_
  simp [ic_state_every_api_Lock, rs_state_every_api_Lock]
  refine BackC.scanB Lck.zero l (fun (i : Nat) (_ : Unit) => ⟨[(0, .view (l.map Cel.c)), (1, en q), (5, .int .i64 i)], []⟩) (fun _ _ r => l.all (p_within_5 q.v q.w) = r.all (p_within_5 q.v q.w)) (fun i b r _ _ => ⟨Nat.zero_le _, lowS3 l q 0 1 5 _⟩) (by simp) (fun i a r b hi ha hd hG => ?_) fun b hG => ?_
  · have hne : ¬ i = l.length := by omega
    have h : okK a := hp a (mem_drop hd)
    rw [hG]
    cases hb : p_within_5 q.v q.w a
    · simp [hi, ha, c_within_5, hne, hb, h]
    · simp [hi, ha, c_within_5, hne, hb, h]
      try omega
  · rw [hG]
    simp
def cE_within_5 : Ctr := C2 (fun (l : List Lck) (q : Q_within_5) => l.length ≤ 9223372036854775807 ∧ okKs l) fun l q => .bool (l.all (p_within_5 q.v q.w))
theorem knownE_within_5 : Known Try.prog 157 cE_within_5 := known_C2 (fun l q h => det_every_within_5 l q h.1 h.2) fun l q => flat_bool _

theorem det_orders_1 (x : Tsk) : Det Try.prog 160 [en x] [] (en x.Sp.ID) [] := by
  refine det_finF mixed0 knows_nil ok_state_orders_1 1 (by simp) ?_
  simp [ic_state_orders_1, rs_state_orders_1]
def c_orders_1 : Ctr := C1 (fun x : Tsk => True) fun x => .int .i64 x.Sp.ID
theorem known_orders_1 : Known Try.prog 160 c_orders_1 := known_C1 (fun x _ => by simpa using det_orders_1 x) fun x => flat_int _ _
abbrev Q_orders_1 : Type := FnC 160
theorem det_num_orders_1 (l : List Tsk) (q : Q_orders_1) (hl : l.length ≤ 1073741824) : Det Try.prog 159 [en l, en q] [] (en (l.map fun x => x.Sp.ID)) [] := by
  refine det_finF mixed0 (knows_cons known_orders_1 knows_nil) ok_state_numbers_api_Task 2 (by simp) ?_
  simp [-List.map_map, ic_state_numbers_api_Task, rs_state_numbers_api_Task]
  refine LoopC.scanR Tsk.zero l (fun i (b : List Int) => ⟨[(1, .fn 160 [] []), (5, bs 0 (b.map Cel.c)), (8, .view (l.map Cel.c)), (9, .int .i64 l.length), (10, .int .i64 i)], [bob 1 (b.map Cel.c)]⟩) (fun i b r => b.length = i ∧ l.map (fun x => x.Sp.ID) = b ++ r.map fun x => x.Sp.ID) [] [0] (by simp [atR]) (by simp) (fun i a r b hi ha hd ⟨hb, hG⟩ => ?_) fun b ⟨hb, hG⟩ => ?_
  · simp [hi, ha, c_orders_1]
    and_intros <;> first | omega | skip
    refine ⟨b ++ [a.Sp.ID], ⟨[2], by simp [atR]⟩, by simp [hb], by simp [hG]⟩
  · simp at hG
    simp [-List.map_map, hG]
def c_num_orders_1 : Ctr := V2 (fun (l : List Tsk) (q : Q_orders_1) => l.length ≤ 1073741824) fun l _ => en (l.map fun x => x.Sp.ID)
theorem known_num_orders_1 : Known Try.prog 159 c_num_orders_1 := known_V2 (fun l q h => det_num_orders_1 l q h) fun l q _ => closed_en _
theorem det_within_1 (x : Tsk) : Det Try.prog 173 [en x] [] (en x.Seq) [] := by
  refine det_finF mixed0 knows_nil ok_state_within_1 1 (by simp) ?_
  simp [ic_state_within_1, rs_state_within_1]
def c_within_1 : Ctr := C1 (fun x : Tsk => True) fun x => .int .i64 x.Seq
theorem known_within_1 : Known Try.prog 173 c_within_1 := known_C1 (fun x _ => by simpa using det_within_1 x) fun x => flat_int _ _
abbrev Q_within_1 : Type := FnC 173
theorem det_num_within_1 (l : List Tsk) (q : Q_within_1) (hl : l.length ≤ 1073741824) : Det Try.prog 159 [en l, en q] [] (ow 0 ((l.map fun x => x.Seq).map Cel.c)) [bob 1 ((l.map fun x => x.Seq).map Cel.c)] := by
  refine det_finO mixed0 (knows_cons known_within_1 knows_nil) ok_state_numbers_api_Task (by simp) ?_
  simp [-List.map_map, ic_state_numbers_api_Task, rs_state_numbers_api_Task]
  refine LoopC.scanR Tsk.zero l (fun i (b : List Int) => ⟨[(1, .fn 173 [] []), (5, bs 0 (b.map Cel.c)), (8, .view (l.map Cel.c)), (9, .int .i64 l.length), (10, .int .i64 i)], [bob 1 (b.map Cel.c)]⟩) (fun i b r => b.length = i ∧ l.map (fun x => x.Seq) = b ++ r.map fun x => x.Seq) [] [0] (by simp [atR]) (by simp) (fun i a r b hi ha hd ⟨hb, hG⟩ => ?_) fun b ⟨hb, hG⟩ => ?_
  · simp [hi, ha, c_within_1]
    and_intros <;> first | omega | skip
    refine ⟨b ++ [a.Seq], ⟨[2], by simp [atR]⟩, by simp [hb], by simp [hG]⟩
  · simp at hG
    simp [-List.map_map, hG]
    rcases b with _ | ⟨y, b⟩
    · exact ⟨[0], by simp [emp]⟩
    · exact ⟨[0], by simp⟩
def c_num_within_1 : Ctr := O2 (fun (l : List Tsk) (q : Q_within_1) => l.length ≤ 1073741824) (fun l _ => ow 0 ((l.map fun x => x.Seq).map Cel.c)) fun l _ => [bob 1 ((l.map fun x => x.Seq).map Cel.c)]
theorem known_num_within_1 : Known Try.prog 159 c_num_within_1 := known_O2 (fun l q h => det_num_within_1 l q h) fun l q => by simp [-List.map_map]
theorem det_hand (x : Hand) : Det Try.prog 162 [en x] [] (en x.ID) [] := by
  refine det_finF mixed0 knows_nil ok_state_hand 1 (by simp) ?_
  simp [ic_state_hand, rs_state_hand]
def c_hand : Ctr := C1 (fun x : Hand => True) fun x => .int .i64 x.ID
theorem known_hand : Known Try.prog 162 c_hand := known_C1 (fun x _ => by simpa using det_hand x) fun x => flat_int _ _
abbrev Q_hand : Type := FnC 162
theorem det_num_hand (l : List Hand) (q : Q_hand) (hl : l.length ≤ 1073741824) : Det Try.prog 161 [en l, en q] [] (en (l.map fun x => x.ID)) [] := by
  refine det_finF mixed0 (knows_cons known_hand knows_nil) ok_state_numbers_api_Hand 2 (by simp) ?_
  simp [-List.map_map, ic_state_numbers_api_Hand, rs_state_numbers_api_Hand]
  refine LoopC.scanR Hand.zero l (fun i (b : List Int) => ⟨[(1, .fn 162 [] []), (5, bs 0 (b.map Cel.c)), (8, .view (l.map Cel.c)), (9, .int .i64 l.length), (10, .int .i64 i)], [bob 1 (b.map Cel.c)]⟩) (fun i b r => b.length = i ∧ l.map (fun x => x.ID) = b ++ r.map fun x => x.ID) [] [0] (by simp [atR]) (by simp) (fun i a r b hi ha hd ⟨hb, hG⟩ => ?_) fun b ⟨hb, hG⟩ => ?_
  · simp [hi, ha, c_hand]
    and_intros <;> first | omega | skip
    refine ⟨b ++ [a.ID], ⟨[2], by simp [atR]⟩, by simp [hb], by simp [hG]⟩
  · simp at hG
    simp [-List.map_map, hG]
def c_num_hand : Ctr := V2 (fun (l : List Hand) (q : Q_hand) => l.length ≤ 1073741824) fun l _ => en (l.map fun x => x.ID)
theorem known_num_hand : Known Try.prog 161 c_num_hand := known_V2 (fun l q h => det_num_hand l q h) fun l q _ => closed_en _
theorem det_orders_2 (x : Lse) : Det Try.prog 164 [en x] [] (en x.Token) [] := by
  refine det_finF mixed0 knows_nil ok_state_orders_2 1 (by simp) ?_
  simp [ic_state_orders_2, rs_state_orders_2]
def c_orders_2 : Ctr := C1 (fun x : Lse => True) fun x => .int .i64 x.Token
theorem known_orders_2 : Known Try.prog 164 c_orders_2 := known_C1 (fun x _ => by simpa using det_orders_2 x) fun x => flat_int _ _
abbrev Q_orders_2 : Type := FnC 164
theorem det_num_orders_2 (l : List Lse) (q : Q_orders_2) (hl : l.length ≤ 1073741824) : Det Try.prog 163 [en l, en q] [] (en (l.map fun x => x.Token)) [] := by
  refine det_finF mixed0 (knows_cons known_orders_2 knows_nil) ok_state_numbers_api_Lease 2 (by simp) ?_
  simp [-List.map_map, ic_state_numbers_api_Lease, rs_state_numbers_api_Lease]
  refine LoopC.scanR Lse.zero l (fun i (b : List Int) => ⟨[(1, .fn 164 [] []), (5, bs 0 (b.map Cel.c)), (8, .view (l.map Cel.c)), (9, .int .i64 l.length), (10, .int .i64 i)], [bob 1 (b.map Cel.c)]⟩) (fun i b r => b.length = i ∧ l.map (fun x => x.Token) = b ++ r.map fun x => x.Token) [] [0] (by simp [atR]) (by simp) (fun i a r b hi ha hd ⟨hb, hG⟩ => ?_) fun b ⟨hb, hG⟩ => ?_
  · simp [hi, ha, c_orders_2]
    and_intros <;> first | omega | skip
    refine ⟨b ++ [a.Token], ⟨[2], by simp [atR]⟩, by simp [hb], by simp [hG]⟩
  · simp at hG
    simp [-List.map_map, hG]
def c_num_orders_2 : Ctr := V2 (fun (l : List Lse) (q : Q_orders_2) => l.length ≤ 1073741824) fun l _ => en (l.map fun x => x.Token)
theorem known_num_orders_2 : Known Try.prog 163 c_num_orders_2 := known_V2 (fun l q h => det_num_orders_2 l q h) fun l q _ => closed_en _
theorem det_orders_5 (x : Lck) : Det Try.prog 168 [en x] [] (en x.ID) [] := by
  refine det_finF mixed0 knows_nil ok_state_orders_5 1 (by simp) ?_
  simp [ic_state_orders_5, rs_state_orders_5]
def c_orders_5 : Ctr := C1 (fun x : Lck => True) fun x => .int .i64 x.ID
theorem known_orders_5 : Known Try.prog 168 c_orders_5 := known_C1 (fun x _ => by simpa using det_orders_5 x) fun x => flat_int _ _
abbrev Q_orders_5 : Type := FnC 168
theorem det_num_orders_5 (l : List Lck) (q : Q_orders_5) (hl : l.length ≤ 1073741824) : Det Try.prog 167 [en l, en q] [] (en (l.map fun x => x.ID)) [] := by
  refine det_finF mixed0 (knows_cons known_orders_5 knows_nil) ok_state_numbers_api_Lock 2 (by simp) ?_
  simp [-List.map_map, ic_state_numbers_api_Lock, rs_state_numbers_api_Lock]
  refine LoopC.scanR Lck.zero l (fun i (b : List Int) => ⟨[(1, .fn 168 [] []), (5, bs 0 (b.map Cel.c)), (8, .view (l.map Cel.c)), (9, .int .i64 l.length), (10, .int .i64 i)], [bob 1 (b.map Cel.c)]⟩) (fun i b r => b.length = i ∧ l.map (fun x => x.ID) = b ++ r.map fun x => x.ID) [] [0] (by simp [atR]) (by simp) (fun i a r b hi ha hd ⟨hb, hG⟩ => ?_) fun b ⟨hb, hG⟩ => ?_
  · simp [hi, ha, c_orders_5]
    and_intros <;> first | omega | skip
    refine ⟨b ++ [a.ID], ⟨[2], by simp [atR]⟩, by simp [hb], by simp [hG]⟩
  · simp at hG
    simp [-List.map_map, hG]
def c_num_orders_5 : Ctr := V2 (fun (l : List Lck) (q : Q_orders_5) => l.length ≤ 1073741824) fun l _ => en (l.map fun x => x.ID)
theorem known_num_orders_5 : Known Try.prog 167 c_num_orders_5 := known_V2 (fun l q h => det_num_orders_5 l q h) fun l q _ => closed_en _
theorem det_orders_6 (x : Ais) : Det Try.prog 170 [en x] [] (en x.ID) [] := by
  refine det_finF mixed0 knows_nil ok_state_orders_6 1 (by simp) ?_
  simp [ic_state_orders_6, rs_state_orders_6]
def c_orders_6 : Ctr := C1 (fun x : Ais => True) fun x => .int .i64 x.ID
theorem known_orders_6 : Known Try.prog 170 c_orders_6 := known_C1 (fun x _ => by simpa using det_orders_6 x) fun x => flat_int _ _
abbrev Q_orders_6 : Type := FnC 170
theorem det_num_orders_6 (l : List Ais) (q : Q_orders_6) (hl : l.length ≤ 1073741824) : Det Try.prog 169 [en l, en q] [] (en (l.map fun x => x.ID)) [] := by
  refine det_finF mixed0 (knows_cons known_orders_6 knows_nil) ok_state_numbers_api_Aisle 2 (by simp) ?_
  simp [-List.map_map, ic_state_numbers_api_Aisle, rs_state_numbers_api_Aisle]
  refine LoopC.scanR Ais.zero l (fun i (b : List Int) => ⟨[(1, .fn 170 [] []), (5, bs 0 (b.map Cel.c)), (8, .view (l.map Cel.c)), (9, .int .i64 l.length), (10, .int .i64 i)], [bob 1 (b.map Cel.c)]⟩) (fun i b r => b.length = i ∧ l.map (fun x => x.ID) = b ++ r.map fun x => x.ID) [] [0] (by simp [atR]) (by simp) (fun i a r b hi ha hd ⟨hb, hG⟩ => ?_) fun b ⟨hb, hG⟩ => ?_
  · simp [hi, ha, c_orders_6]
    and_intros <;> first | omega | skip
    refine ⟨b ++ [a.ID], ⟨[2], by simp [atR]⟩, by simp [hb], by simp [hG]⟩
  · simp at hG
    simp [-List.map_map, hG]
def c_num_orders_6 : Ctr := V2 (fun (l : List Ais) (q : Q_orders_6) => l.length ≤ 1073741824) fun l _ => en (l.map fun x => x.ID)
theorem known_num_orders_6 : Known Try.prog 169 c_num_orders_6 := known_V2 (fun l q h => det_num_orders_6 l q h) fun l q _ => closed_en _
theorem det_sameTask (x y : Tsk) (h : okT x) : Det Try.prog 109 [en x, en y] [] (.bool (decide (x = y))) [] := by
  refine det_finF mixed0 (knows_cons known_TaskSame (knows_cons known_Equal knows_nil)) ok_state_sameTask 1 (by simp) ?_
  have h1 := h.1
  have h2 := h.2
  have h3 : x.Sp.After.length ≤ 9223372036854775807 := by omega
  have h4 : x.Burnt.length ≤ 9223372036854775807 := by omega
  simp [ic_state_sameTask, rs_state_sameTask, cR22Same, cInts, h3, h4]
  rw [Bool.eq_iff_iff]
  simp [ext_Tsk, ext_Spec, ext_Pt, and_assoc]
def c_sameTask : Ctr := C2 (fun x y : Tsk => okT x) fun x y => .bool (decide (x = y))
theorem known_sameTask : Known Try.prog 109 c_sameTask := known_C2 (fun x y h => det_sameTask x y h) fun x y => flat_bool _
theorem det_EqsameTask (l k : List Tsk) (g : FnC 109) (hl : l.length ≤ 9223372036854775807) (hx : okTs l) : Det Try.prog 108 [en l, en k, en g] [] (.bool (decide (l = k))) [] := by
  refine det_finF mixed0 (knows_cons known_sameTask knows_nil) ok_slices_EqualFunc_api_Task_api_Task_api_Task_api_Task 1 (by simp) ?_
  simp [ic_slices_EqualFunc_api_Task_api_Task_api_Task_api_Task, rs_slices_EqualFunc_api_Task_api_Task_api_Task_api_Task]
  refine ⟨fun h e => h (by rw [e]), fun hlen => ?_⟩
  refine LoopC.scanB Tsk.zero l (fun i (_ : Unit) => ⟨[(1, .view (k.map Cel.c)), (2, .fn 109 [] []), (15, .view (l.map Cel.c)), (16, .int .i64 l.length), (17, .int .i64 i)], []⟩) (fun i _ r => l = k ↔ r = k.drop i) () (by simp) (by simp) (by simp) (fun i a r b hi ha hd hG => ?_) fun b hG => ?_
  · have hi' : i < k.length := by omega
    have hy := drop_nth Tsk.zero hi'
    have hxa := hx a (mem_drop hd)
    rw [hy] at hG
    simp [hi, hi', ha, c_sameTask, hxa]
    refine ⟨fun e => ?_, fun e => ⟨by omega, ?_⟩⟩
    · rw [hG]; simp; intro e'; exact absurd e' e
    · rw [hG, e]; simp
  · simp
    rw [hG, List.drop_of_length_le (by omega)]
def c_EqsameTask : Ctr := C3 (fun (l k : List Tsk) (g : FnC 109) => l.length ≤ 9223372036854775807 ∧ okTs l) fun l k _ => .bool (decide (l = k))
theorem known_EqsameTask : Known Try.prog 108 c_EqsameTask := known_C3 (fun l k g h => det_EqsameTask l k g h.1 h.2) fun l k g => flat_bool _
theorem det_sameLease (x y : Lse) (h : okL x) : Det Try.prog 112 [en x, en y] [] (.bool (decide (x = y))) [] := by
  refine det_finF mixed0 (knows_cons known_Equal knows_nil) ok_state_sameLease 1 (by simp) ?_
  have h1 : x.Want.length ≤ 9223372036854775807 := Nat.le_trans h (by decide)
  simp [ic_state_sameLease, rs_state_sameLease, cInts, h1]
  rw [Bool.eq_iff_iff]
  simp [ext_Lse, and_assoc]
def c_sameLease : Ctr := C2 (fun x y : Lse => okL x) fun x y => .bool (decide (x = y))
theorem known_sameLease : Known Try.prog 112 c_sameLease := known_C2 (fun x y h => det_sameLease x y h) fun x y => flat_bool _
theorem det_EqsameLease (l k : List Lse) (g : FnC 112) (hl : l.length ≤ 9223372036854775807) (hx : okLs l) : Det Try.prog 111 [en l, en k, en g] [] (.bool (decide (l = k))) [] := by
  refine det_finF mixed0 (knows_cons known_sameLease knows_nil) ok_slices_EqualFunc_api_Lease_api_Lease_api_Lease_api_Lease 1 (by simp) ?_
  simp [ic_slices_EqualFunc_api_Lease_api_Lease_api_Lease_api_Lease, rs_slices_EqualFunc_api_Lease_api_Lease_api_Lease_api_Lease]
  refine ⟨fun h e => h (by rw [e]), fun hlen => ?_⟩
  refine LoopC.scanB Lse.zero l (fun i (_ : Unit) => ⟨[(1, .view (k.map Cel.c)), (2, .fn 112 [] []), (15, .view (l.map Cel.c)), (16, .int .i64 l.length), (17, .int .i64 i)], []⟩) (fun i _ r => l = k ↔ r = k.drop i) () (by simp) (by simp) (by simp) (fun i a r b hi ha hd hG => ?_) fun b hG => ?_
  · have hi' : i < k.length := by omega
    have hy := drop_nth Lse.zero hi'
    have hxa := hx a (mem_drop hd)
    rw [hy] at hG
    simp [hi, hi', ha, c_sameLease, hxa]
    refine ⟨fun e => ?_, fun e => ⟨by omega, ?_⟩⟩
    · rw [hG]; simp; intro e'; exact absurd e' e
    · rw [hG, e]; simp
  · simp
    rw [hG, List.drop_of_length_le (by omega)]
def c_EqsameLease : Ctr := C3 (fun (l k : List Lse) (g : FnC 112) => l.length ≤ 9223372036854775807 ∧ okLs l) fun l k _ => .bool (decide (l = k))
theorem known_EqsameLease : Known Try.prog 111 c_EqsameLease := known_C3 (fun l k g h => det_EqsameLease l k g h.1 h.2) fun l k g => flat_bool _
theorem det_sameLock (x y : Lck) (h : okK x) : Det Try.prog 114 [en x, en y] [] (.bool (decide (x = y))) [] := by
  refine det_finF mixed0 (knows_cons known_Equal knows_nil) ok_state_sameLock 1 (by simp) ?_
  have h1 : x.Wait.length ≤ 9223372036854775807 := Nat.le_trans h (by decide)
  simp [ic_state_sameLock, rs_state_sameLock, cInts, h1]
  rw [Bool.eq_iff_iff]
  simp [ext_Lck, and_assoc]
def c_sameLock : Ctr := C2 (fun x y : Lck => okK x) fun x y => .bool (decide (x = y))
theorem known_sameLock : Known Try.prog 114 c_sameLock := known_C2 (fun x y h => det_sameLock x y h) fun x y => flat_bool _
theorem det_EqsameLock (l k : List Lck) (g : FnC 114) (hl : l.length ≤ 9223372036854775807) (hx : okKs l) : Det Try.prog 113 [en l, en k, en g] [] (.bool (decide (l = k))) [] := by
  refine det_finF mixed0 (knows_cons known_sameLock knows_nil) ok_slices_EqualFunc_api_Lock_api_Lock_api_Lock_api_Lock 1 (by simp) ?_
  simp [ic_slices_EqualFunc_api_Lock_api_Lock_api_Lock_api_Lock, rs_slices_EqualFunc_api_Lock_api_Lock_api_Lock_api_Lock]
  refine ⟨fun h e => h (by rw [e]), fun hlen => ?_⟩
  refine LoopC.scanB Lck.zero l (fun i (_ : Unit) => ⟨[(1, .view (k.map Cel.c)), (2, .fn 114 [] []), (15, .view (l.map Cel.c)), (16, .int .i64 l.length), (17, .int .i64 i)], []⟩) (fun i _ r => l = k ↔ r = k.drop i) () (by simp) (by simp) (by simp) (fun i a r b hi ha hd hG => ?_) fun b hG => ?_
  · have hi' : i < k.length := by omega
    have hy := drop_nth Lck.zero hi'
    have hxa := hx a (mem_drop hd)
    rw [hy] at hG
    simp [hi, hi', ha, c_sameLock, hxa]
    refine ⟨fun e => ?_, fun e => ⟨by omega, ?_⟩⟩
    · rw [hG]; simp; intro e'; exact absurd e' e
    · rw [hG, e]; simp
  · simp
    rw [hG, List.drop_of_length_le (by omega)]
def c_EqsameLock : Ctr := C3 (fun (l k : List Lck) (g : FnC 114) => l.length ≤ 9223372036854775807 ∧ okKs l) fun l k _ => .bool (decide (l = k))
theorem known_EqsameLock : Known Try.prog 113 c_EqsameLock := known_C3 (fun l k g h => det_EqsameLock l k g h.1 h.2) fun l k g => flat_bool _
theorem det_EqHands (l k : List Hand) (hl : l.length ≤ 9223372036854775807) : Det Try.prog 110 [en l, en k] [] (.bool (decide (l = k))) [] := by
  refine det_finF mixed0 knows_nil ok_slices_Equal_api_Hand_api_Hand 1 (by simp) ?_
  simp [ic_slices_Equal_api_Hand_api_Hand, rs_slices_Equal_api_Hand_api_Hand]
  refine ⟨fun h e => h (by rw [e]), fun hlen => ?_⟩
  refine LoopC.scanB Hand.zero l (fun i (_ : Unit) => ⟨[(0, .view (l.map Cel.c)), (1, .view (k.map Cel.c)), (12, .int .i64 l.length), (13, .int .i64 i)], []⟩) (fun i _ r => l = k ↔ r = k.drop i) () (by simp) (by simp) (by simp) (fun i a r b hi ha hd hG => ?_) fun b hG => ?_
  · have hi' : i < k.length := by omega
    have hy := drop_nth Hand.zero hi'
    rw [hy] at hG
    by_cases e : a = nth k i Hand.zero
    · simp [hi, hi', ha, vcLoose, e]
      refine ⟨by omega, ?_⟩
      rw [hG, e]; simp
    · have e2 : ¬ (a.ID = (nth k i Hand.zero).ID ∧ a.Bits = (nth k i Hand.zero).Bits ∧ a.On = (nth k i Hand.zero).On) := fun h => e (by simp [ext_Hand, h])
      have e3 : ¬ l = k := fun h => by rw [hG] at h; simp at h; exact e h.1
      simp [hi, hi', ha, vcLoose, e3]
      grind
  · simp
    rw [hG, List.drop_of_length_le (by omega)]
def cEqHands : Ctr := C2 (fun l k : List Hand => l.length ≤ 9223372036854775807) fun l k => .bool (decide (l = k))
theorem known_EqHands : Known Try.prog 110 cEqHands := known_C2 (fun l k h => det_EqHands l k h) fun l k => flat_bool _
theorem det_CloneTask (l : List Tsk) (hl : l.length ≤ 1073741824) : Det Try.prog 104 [en l] [] (ow 0 (l.map Cel.c)) [bob 14 (l.map Cel.c)] := by
  refine det_finO mixed0 knows_nil ok_slices_Clone_api_Task_api_Task (by simp) ?_
  simp [ic_slices_Clone_api_Task_api_Task, rs_slices_Clone_api_Task_api_Task, hl]
  rcases l with _ | ⟨x, l⟩
  · exact ⟨⟨[0], by simp [emp]⟩, fun _ => ⟨[0], by simp⟩⟩
  · exact ⟨⟨[1], by simp⟩, fun h => by cases h⟩
def cCloneTask : Ctr := O1 (fun l : List Tsk => l.length ≤ 1073741824) (fun l => ow 0 (l.map Cel.c)) fun l => [bob 14 (l.map Cel.c)]
theorem known_CloneTask : Known Try.prog 104 cCloneTask := known_O1 (fun l h => det_CloneTask l h) fun l => by simp
theorem det_CloneLease (l : List Lse) (hl : l.length ≤ 1073741824) : Det Try.prog 106 [en l] [] (ow 0 (l.map Cel.c)) [bob 7 (l.map Cel.c)] := by
  refine det_finO mixed0 knows_nil ok_slices_Clone_api_Lease_api_Lease (by simp) ?_
  simp [ic_slices_Clone_api_Lease_api_Lease, rs_slices_Clone_api_Lease_api_Lease, hl]
  rcases l with _ | ⟨x, l⟩
  · exact ⟨⟨[0], by simp [emp]⟩, fun _ => ⟨[0], by simp⟩⟩
  · exact ⟨⟨[1], by simp⟩, fun h => by cases h⟩
def cCloneLease : Ctr := O1 (fun l : List Lse => l.length ≤ 1073741824) (fun l => ow 0 (l.map Cel.c)) fun l => [bob 7 (l.map Cel.c)]
theorem known_CloneLease : Known Try.prog 106 cCloneLease := known_O1 (fun l h => det_CloneLease l h) fun l => by simp
theorem det_CloneLock (l : List Lck) (hl : l.length ≤ 1073741824) : Det Try.prog 107 [en l] [] (ow 0 (l.map Cel.c)) [bob 3 (l.map Cel.c)] := by
  refine det_finO mixed0 knows_nil ok_slices_Clone_api_Lock_api_Lock (by simp) ?_
  simp [ic_slices_Clone_api_Lock_api_Lock, rs_slices_Clone_api_Lock_api_Lock, hl]
  rcases l with _ | ⟨x, l⟩
  · exact ⟨⟨[0], by simp [emp]⟩, fun _ => ⟨[0], by simp⟩⟩
  · exact ⟨⟨[1], by simp⟩, fun h => by cases h⟩
def cCloneLock : Ctr := O1 (fun l : List Lck => l.length ≤ 1073741824) (fun l => ow 0 (l.map Cel.c)) fun l => [bob 3 (l.map Cel.c)]
theorem known_CloneLock : Known Try.prog 107 cCloneLock := known_O1 (fun l h => det_CloneLock l h) fun l => by simp
theorem det_CloneHand (l : List Hand) (hl : l.length ≤ 1073741824) : Det Try.prog 105 [en l] [] (en l) [] := by
  refine det_finF mixed0 knows_nil ok_slices_Clone_api_Hand_api_Hand 2 (by simp) ?_
  simp [ic_slices_Clone_api_Hand_api_Hand, rs_slices_Clone_api_Hand_api_Hand, hl]
def cCloneHand : Ctr := V1 (fun l : List Hand => l.length ≤ 1073741824) fun l => en l
theorem known_CloneHand : Known Try.prog 105 cCloneHand := known_V1 (fun l h => det_CloneHand l h) fun l h => closed_en _
end Go.Proofs.Ytfjidignjjaihaa.Sx
