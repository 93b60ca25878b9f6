/- Package snap: what is laid (writers). No conditions: a kit of our own. -/
import Derived.Test.YtnckibgcjgeekaaGreatBy6
import Derived.Test.YtnckibgcjgeekaaGreatTy18
import Derived.Test.YtnckibgcjgeekaaGreatIrSn
import Derived.Test.YtnckibgcjgeekaaGreatFnT3
namespace Go.Proofs.YtnckibgcjgeekaaGreat.Sx
open Go Go.RowKit
set_option linter.unusedVariables false
set_option linter.unusedSimpArgs false

@[simp] theorem n_Wr : Cel.n Wr = 1 := rfl
/-! ### what is laid, as words -/
def ptW (p : Pt) : List (BitVec 64) := [zig p.X, zig p.Y]
def listW (l : List Int) : List (BitVec 64) := u64 l.length :: l.map u64
def bitI (b : Bool) : Int := cond b 1 0
def handW (h : Hand) : List (BitVec 64) := [u64 h.ID, h.Bits, u64 (bitI h.On)]
def handsW (l : List Hand) : List (BitVec 64) := u64 l.length :: l.flatMap handW
def aisW (a : Ais) : List (BitVec 64) := u64 a.ID :: (ptW a.Low ++ ptW a.High)
def rulW (r : Rul) : List (BitVec 64) := [u64 r.Tasks, u64 r.Crew, u64 r.Units, u64 r.Lease, u64 r.Tries, u64 r.Rate, u64 r.Start, u64 r.Aisles.length] ++ r.Aisles.flatMap aisW
def tskW (x : Tsk) : List (BitVec 64) := specNums x.Sp ++ ([u64 x.Status, u64 x.Seq, u64 x.Since, u64 x.Lost] ++ listW x.Burnt)
def lseW (x : Lse) : List (BitVec 64) := [u64 x.Token, u64 x.Task, u64 x.Worker, u64 x.Un, u64 (x.Due + 1), u64 x.Got] ++ listW x.Want
def lckW (x : Lck) : List (BitVec 64) := [u64 x.ID, u64 x.Holder] ++ listW x.Wait
theorem vars_len' (b : List (BitVec 8)) (ws : List (BitVec 64)) : (b ++ vars ws).length ≤ b.length + 10 * ws.length := by
  have := vars_len ws; simp; omega
theorem vars_one (w : BitVec 64) : vars [w] = varB w.toNat := by simp [vars]
theorem closed_tup0 : Closed (.tup []) := .tup rfl fun i a b h => by simp at h
/-! ### the program's writer -/
def lay (r : Wr) (ws : List (BitVec 64)) : Wr := ⟨r.B ++ vars ws⟩
theorem lay_nil (r : Wr) : lay r [] = r := by simp [lay, vars_nil]
theorem lay_lay (r : Wr) (a b : List (BitVec 64)) : lay (lay r a) b = lay r (a ++ b) := by simp [lay, vars_app]
theorem lay_len (r : Wr) (ws : List (BitVec 64)) : (lay r ws).B.length ≤ r.B.length + 10 * ws.length := vars_len' _ _
theorem det_wword (r : Wr) (w : BitVec 64) (h : r.B.length ≤ 1000000000) : Det Tryz.prog 59 [.ptr 0 0 0, en w] [.rows (Cel.n Wr) [Cel.c r]] (.tup []) [.rows (Cel.n Wr) [Cel.c (lay r [w])]] := by
  refine det_finM mixed0 (knows_cons known_Var knows_nil) ok_snap_writer_word 1 (by simp) ?_
  simp [-List.map_append, ic_snap_writer_word, rs_snap_writer_word, cVar, h, lay, vars_one]
def cWWord : Ctr := M1 (fun (r : Wr) (w : BitVec 64) => r.B.length ≤ 1000000000) (fun r w => lay r [w]) fun _ _ => .tup []
theorem known_WWord : Known Tryz.prog 59 cWWord := known_M1 (fun r w h => det_wword r w h) fun r w _ => closed_tup0
attribute [local irreducible] lay
theorem det_wnums (r : Wr) (l : List Int) (h : r.B.length + 10 * l.length ≤ 1000000000) : Det Tryz.prog 18 [.ptr 0 0 0, en l] [.rows (Cel.n Wr) [Cel.c r]] (.tup []) [.rows (Cel.n Wr) [Cel.c (lay r (l.map u64))]] := by
  refine det_finM mixed0 (knows_cons known_WWord knows_nil) ok_snap_writer_nums 1 (by simp) ?_
  simp [ic_snap_writer_nums, rs_snap_writer_nums]
  refine LoopC.scanB (0 : Int) l (fun i (w : Wr) => ⟨[(0, .ptr 0 0 0), (6, .view (l.map Cel.c)), (7, .int .i64 l.length), (8, .int .i64 i)], [.rows 1 [Cel.c w]]⟩) (fun i w q => lay r (l.map u64) = lay w (q.map u64) ∧ w.B.length + 10 * q.length ≤ 1000000000) r (by simp) (by simp) ⟨rfl, h⟩ (fun i a q w hi ha hd ⟨h1, h2⟩ => ?_) fun w ⟨h1, h2⟩ => ?_
  · simp at h2
    have hw : w.B.length ≤ 1000000000 := by omega
    have e : lay w ((a :: q).map u64) = lay (lay w [u64 a]) (q.map u64) := by rw [lay_lay]; rfl
    have e2 := lay_len w [u64 a]
    simp at e2
    simp [hi, ha, cWWord, hw, wrap_u64', vcLoose, heapsOf]
    exact ⟨by omega, lay w [u64 a], by simp, by rw [h1, e], by omega⟩
  · rw [List.map_nil, lay_nil] at h1
    simp [h1]
def cWNums : Ctr := M1 (fun (r : Wr) (l : List Int) => r.B.length + 10 * l.length ≤ 1000000000) (fun r l => lay r (l.map u64)) fun _ _ => .tup []
theorem known_WNums : Known Tryz.prog 18 cWNums := known_M1 (fun r w h => det_wnums r w h) fun r w _ => closed_tup0
theorem det_wlist (r : Wr) (l : List Int) (h : r.B.length + 10 * l.length ≤ 900000000) : Det Tryz.prog 20 [.ptr 0 0 0, en l] [.rows (Cel.n Wr) [Cel.c r]] (.tup []) [.rows (Cel.n Wr) [Cel.c (lay r (listW l))]] := by
  refine det_finM mixed0 (knows_cons known_WNums knows_nil) ok_snap_writer_list 1 (by simp) ?_
  have h1 := lay_len r [u64 l.length]
  simp at h1
  have e : lay r (listW l) = lay (lay r [u64 l.length]) (l.map u64) := by rw [lay_lay]; rfl
  rw [e]
  simp [ic_snap_writer_list, rs_snap_writer_list, cWNums]
  exact ⟨by omega, by omega⟩
def cWList : Ctr := M1 (fun (r : Wr) (l : List Int) => r.B.length + 10 * l.length ≤ 900000000) (fun r l => lay r (listW l)) fun _ _ => .tup []
theorem known_WList : Known Tryz.prog 20 cWList := known_M1 (fun r w h => det_wlist r w h) fun r w _ => closed_tup0
theorem det_wpoint (r : Wr) (p : Pt) (h : r.B.length ≤ 900000000) (hp : smallPt p) : Det Tryz.prog 58 [.ptr 0 0 0, en p] [.rows (Cel.n Wr) [Cel.c r]] (.tup []) [.rows (Cel.n Wr) [Cel.c (lay r (ptW p))]] := by
  refine det_finM mixed0 (knows_cons known_Zig (knows_cons known_WWord knows_nil)) ok_snap_writer_point 1 (by simp) ?_
  have h1 := lay_len r [zig p.X]
  simp at h1
  have e : lay r (ptW p) = lay (lay r [zig p.X]) [zig p.Y] := by rw [lay_lay]; rfl
  rw [e]
  simp [ic_snap_writer_point, rs_snap_writer_point, cZig, cWWord, hp.1, hp.2]
  exact ⟨by omega, by omega⟩
def cWPoint : Ctr := M1 (fun (r : Wr) (p : Pt) => r.B.length ≤ 900000000 ∧ smallPt p) (fun r p => lay r (ptW p)) fun _ _ => .tup []
theorem known_WPoint : Known Tryz.prog 58 cWPoint := known_M1 (fun r p h => det_wpoint r p h.1 h.2) fun r w _ => closed_tup0
theorem det_snap_bit (b : Bool) : Det Tryz.prog 62 [en b] [] (en (bitI b)) [] := by
  refine det_finF mixed0 knows_nil ok_snap_bit 1 (by simp) ?_
  cases b <;> simp [ic_snap_bit, rs_snap_bit, bitI]
def cBit : Ctr := C1 (fun b : Bool => True) fun b => en (bitI b)
theorem known_Bit : Known Tryz.prog 62 cBit := known_C1 (fun b _ => det_snap_bit b) fun b => flat_int _ _
def handsF (l : List Hand) : List (BitVec 64) := l.flatMap handW
theorem det_whands (r : Wr) (l : List Hand) (h : r.B.length + 100 * l.length ≤ 800000000) : Det Tryz.prog 21 [.ptr 0 0 0, en l] [.rows (Cel.n Wr) [Cel.c r]] (.tup []) [.rows (Cel.n Wr) [Cel.c (lay r (handsW l))]] := by
  refine det_finM mixed0 (knows_cons known_WNums (knows_cons known_WWord (knows_cons known_Bit knows_nil))) ok_snap_writer_hands 1 (by simp) ?_
  have h1 := lay_len r [u64 l.length]
  simp at h1
  have hb : r.B.length ≤ 999999990 := by omega
  simp [ic_snap_writer_hands, rs_snap_writer_hands, cWNums]
  refine ⟨hb, ?_⟩
  refine LoopC.scanB Hand.zero l (fun i (w : Wr) => ⟨[(0, .ptr 0 0 0), (11, .view (l.map Cel.c)), (12, .int .i64 l.length), (13, .int .i64 i)], [.rows 1 [Cel.c w]]⟩) (fun i w q => lay r (handsW l) = lay w (handsF q) ∧ w.B.length + 100 * q.length ≤ 900000000) (lay r [u64 l.length]) (by simp) (by simp) ⟨by rw [lay_lay]; rfl, by omega⟩ (fun i a q w hi ha hd ⟨g1, g2⟩ => ?_) fun w ⟨g1, g2⟩ => ?_
  · simp at g2
    have e1 := lay_len w [u64 a.ID]
    have e2 := lay_len (lay w [u64 a.ID]) [a.Bits]
    have e3 := lay_len (lay (lay w [u64 a.ID]) [a.Bits]) [u64 (bitI a.On)]
    simp at e1 e2 e3
    have e : lay w (handsF (a :: q)) = lay (lay (lay (lay w [u64 a.ID]) [a.Bits]) [u64 (bitI a.On)]) (handsF q) := by
      rw [lay_lay, lay_lay, lay_lay]; rfl
    have b1 : w.B.length ≤ 999999990 := by omega
    have b2 : (lay w [u64 a.ID]).B.length ≤ 1000000000 := by omega
    have b3 : (lay (lay w [u64 a.ID]) [a.Bits]).B.length ≤ 999999990 := by omega
    simp [hi, ha, cWNums, cWWord, cBit, b1, b2, b3, vcLoose, heapsOf]
    exact ⟨by omega, lay (lay (lay w [u64 a.ID]) [a.Bits]) [u64 (bitI a.On)], by simp, by rw [g1, e], by omega⟩
  · have e : lay w (handsF []) = w := lay_nil w
    rw [e] at g1
    simp [g1]
def cWHands : Ctr := M1 (fun (r : Wr) (l : List Hand) => r.B.length + 100 * l.length ≤ 800000000) (fun r l => lay r (handsW l)) fun _ _ => .tup []
theorem known_WHands : Known Tryz.prog 21 cWHands := known_M1 (fun r w h => det_whands r w h) fun r w _ => closed_tup0
def aisF (l : List Ais) : List (BitVec 64) := l.flatMap aisW
theorem det_wrules (r : Wr) (x : Rul) (h : r.B.length + 100 * x.Aisles.length ≤ 700000000) (hx : ∀ a ∈ x.Aisles, smallPt a.Low ∧ smallPt a.High) : Det Tryz.prog 17 [.ptr 0 0 0, en x] [.rows (Cel.n Wr) [Cel.c r]] (.tup []) [.rows (Cel.n Wr) [Cel.c (lay r (rulW x))]] := by
  refine det_finM mixed0 (knows_cons known_WNums (knows_cons known_WPoint knows_nil)) ok_snap_writer_rules 1 (by simp) ?_
  have h1 := lay_len r [u64 x.Tasks, u64 x.Crew, u64 x.Units, u64 x.Lease, u64 x.Tries, u64 x.Rate, u64 x.Start, u64 x.Aisles.length]
  simp at h1
  have hb : r.B.length ≤ 999999920 := by omega
  simp [ic_snap_writer_rules, rs_snap_writer_rules, cWNums]
  refine ⟨hb, ?_⟩
  refine LoopC.scanB Ais.zero x.Aisles (fun i (w : Wr) => ⟨[(0, .ptr 0 0 0), (27, .view (x.Aisles.map Cel.c)), (28, .int .i64 x.Aisles.length), (29, .int .i64 i)], [.rows 1 [Cel.c w]]⟩) (fun i w q => (lay r (rulW x) = lay w (aisF q) ∧ w.B.length + 100 * q.length ≤ 800000000) ∧ ∀ a ∈ q, smallPt a.Low ∧ smallPt a.High) (lay r [u64 x.Tasks, u64 x.Crew, u64 x.Units, u64 x.Lease, u64 x.Tries, u64 x.Rate, u64 x.Start, u64 x.Aisles.length]) (by simp) (by simp) ⟨⟨by rw [lay_lay]; rfl, by omega⟩, hx⟩ (fun i a q w hi ha hd ⟨⟨g1, g2⟩, g3⟩ => ?_) fun w ⟨⟨g1, g2⟩, g3⟩ => ?_
  · simp at g2
    obtain ⟨s1, s2⟩ := g3 a (by simp)
    have e1 := lay_len w [u64 a.ID]
    have e2 := lay_len (lay w [u64 a.ID]) (ptW a.Low)
    have e3 := lay_len (lay (lay w [u64 a.ID]) (ptW a.Low)) (ptW a.High)
    simp only [ptW, List.length_cons, List.length_nil] at e1 e2 e3
    have e : lay w (aisF (a :: q)) = lay (lay (lay (lay w [u64 a.ID]) (ptW a.Low)) (ptW a.High)) (aisF q) := by
      rw [lay_lay, lay_lay, lay_lay]; simp [aisF, aisW]
    have b1 : w.B.length ≤ 999999990 := by omega
    have b2 : (lay w [u64 a.ID]).B.length ≤ 900000000 := by omega
    have b3 : (lay (lay w [u64 a.ID]) (ptW a.Low)).B.length ≤ 900000000 := by simp only [ptW]; omega
    simp [hi, ha, cWNums, cWPoint, b1, b2, b3, s1, s2, vcLoose, heapsOf]
    exact ⟨by omega, lay (lay (lay w [u64 a.ID]) (ptW a.Low)) (ptW a.High), by simp, ⟨by rw [g1, e], by simp only [ptW]; omega⟩, fun y hy => g3 y (by simp [hy])⟩
  · have e : lay w (aisF []) = w := lay_nil w
    rw [e] at g1
    simp [g1]
def rulOk2 (r : Wr) (x : Rul) : Prop := r.B.length + 100 * x.Aisles.length ≤ 700000000 ∧ ∀ a ∈ x.Aisles, smallPt a.Low ∧ smallPt a.High
def cWRules : Ctr := M1 rulOk2 (fun r x => lay r (rulW x)) fun _ _ => .tup []
theorem known_WRules : Known Tryz.prog 17 cWRules := known_M1 (fun r w h => det_wrules r w h.1 h.2) fun r w _ => closed_tup0
/-! ### the document's -/
def putB (b : List (BitVec 8)) (ws : List (BitVec 64)) : List (BitVec 8) := b ++ vars ws
theorem putB_nil (b : List (BitVec 8)) : putB b [] = b := by simp [putB, vars_nil]
theorem putB_putB (b : List (BitVec 8)) (x y : List (BitVec 64)) : putB (putB b x) y = putB b (x ++ y) := by simp [putB, vars_app]
theorem putB_len (b : List (BitVec 8)) (ws : List (BitVec 64)) : (putB b ws).length ≤ b.length + 10 * ws.length := vars_len' _ _
theorem det_r32_num (b : List (BitVec 8)) (n : Int) (h : b.length ≤ 1000000000) : Det Tryz.prog 23 [en b, en n] [] (en (putB b [u64 n])) [] := by
  refine det_finF mixed0 (knows_cons known_r08_Var knows_nil) ok_r32_num 1 (by simp) ?_
  simp [-List.map_append, ic_r32_num, rs_r32_num, cVar, h, wrap_u64', putB, vars_one]
def cNum32 : Ctr := V2 (fun (b : List (BitVec 8)) (n : Int) => b.length ≤ 1000000000) fun b n => en (putB b [u64 n])
theorem known_r32_num : Known Tryz.prog 23 cNum32 := known_V2 (fun b n h => det_r32_num b n h) fun b n _ => closed_en _
attribute [local irreducible] putB
theorem det_r32_list (b : List (BitVec 8)) (l : List Int) (h : b.length + 10 * l.length ≤ 900000000) : Det Tryz.prog 25 [en b, en l] [] (en (putB b (listW l))) [] := by
  refine det_finF mixed0 (knows_cons known_r32_num knows_nil) ok_r32_list 1 (by simp) ?_
  have h1 := putB_len b [u64 l.length]
  simp at h1
  have hb : b.length ≤ 1000000000 := by omega
  simp [ic_r32_list, rs_r32_list, cNum32, hb]
  refine LoopC.scanB (0 : Int) l (fun i (w : List (BitVec 8)) => ⟨[(0, .view (w.map Cel.c)), (1, .view (l.map Cel.c)), (5, .int .i64 i)], []⟩) (fun i w q => putB b (listW l) = putB w (q.map u64) ∧ w.length + 10 * q.length ≤ 1000000000) (putB b [u64 l.length]) (by simp) (by simp) ⟨by rw [putB_putB]; rfl, by omega⟩ (fun i a q w hi ha hd ⟨g1, g2⟩ => ?_) fun w ⟨g1, g2⟩ => ?_
  · simp at g2
    have e1 := putB_len w [u64 a]
    simp at e1
    have e : putB w ((a :: q).map u64) = putB (putB w [u64 a]) (q.map u64) := by rw [putB_putB]; rfl
    have b1 : w.length ≤ 1000000000 := by omega
    simp [hi, ha, cNum32, b1, vcLoose, heapsOf]
    exact ⟨by omega, by rw [g1, e], by omega⟩
  · rw [List.map_nil, putB_nil] at g1
    simp [g1]
def cList32 : Ctr := V2 (fun (b : List (BitVec 8)) (l : List Int) => b.length + 10 * l.length ≤ 900000000) fun b l => en (putB b (listW l))
theorem known_r32_list : Known Tryz.prog 25 cList32 := known_V2 (fun b n h => det_r32_list b n h) fun b n _ => closed_en _
theorem det_r32_point (b : List (BitVec 8)) (p : Pt) (h : b.length ≤ 900000000) (hp : smallPt p) : Det Tryz.prog 63 [en b, en p] [] (en (putB b (ptW p))) [] := by
  refine det_finF mixed0 (knows_cons known_r08_Zig (knows_cons known_r08_Var knows_nil)) ok_r32_point 1 (by simp) ?_
  have h1 := putB_len b [zig p.X]
  simp at h1
  have e : putB b (ptW p) = putB (putB b [zig p.X]) [zig p.Y] := by rw [putB_putB]; rfl
  have e2 : ∀ (c : List (BitVec 8)) (w : BitVec 64), c ++ varB w.toNat = putB c [w] := fun c w => by unfold putB; rw [vars_one]
  rw [e]
  simp [-List.map_append, ic_r32_point, rs_r32_point, cZig, cVar, hp.1, hp.2, e2]
  omega
def cPoint32 : Ctr := V2 (fun (b : List (BitVec 8)) (p : Pt) => b.length ≤ 900000000 ∧ smallPt p) fun b p => en (putB b (ptW p))
theorem known_r32_point : Known Tryz.prog 63 cPoint32 := known_V2 (fun b n h => det_r32_point b n h.1 h.2) fun b n _ => closed_en _
theorem det_r32_hands (b : List (BitVec 8)) (l : List Hand) (h : b.length + 100 * l.length ≤ 800000000) : Det Tryz.prog 26 [en b, en l] [] (en (putB b (handsW l))) [] := by
  refine det_finF mixed0 (knows_cons known_r32_num (knows_cons known_r08_Var knows_nil)) ok_r32_hands 1 (by simp) ?_
  have h1 := putB_len b [u64 l.length]
  simp at h1
  have hb : b.length ≤ 1000000000 := by omega
  have e2 : ∀ (c : List (BitVec 8)) (w : BitVec 64), c ++ varB w.toNat = putB c [w] := fun c w => by unfold putB; rw [vars_one]
  simp [ic_r32_hands, rs_r32_hands, cNum32, hb]
  refine LoopC.scanB Hand.zero l (fun i (w : List (BitVec 8)) => ⟨[(0, .view (w.map Cel.c)), (1, .view (l.map Cel.c)), (5, .int .i64 i)], []⟩) (fun i w q => putB b (handsW l) = putB w (handsF q) ∧ w.length + 100 * q.length ≤ 900000000) (putB b [u64 l.length]) (by simp) (by simp) ⟨by rw [putB_putB]; rfl, by omega⟩ (fun i a q w hi ha hd ⟨g1, g2⟩ => ?_) fun w ⟨g1, g2⟩ => ?_
  · simp at g2
    have e1 := putB_len w [u64 a.ID]
    have e4 := putB_len (putB w [u64 a.ID]) [a.Bits]
    have e3 := putB_len (putB (putB w [u64 a.ID]) [a.Bits]) [u64 (bitI a.On)]
    simp at e1 e4 e3
    have e : putB w (handsF (a :: q)) = putB (putB (putB (putB w [u64 a.ID]) [a.Bits]) [u64 (bitI a.On)]) (handsF q) := by
      rw [putB_putB, putB_putB, putB_putB]; rfl
    have b1 : w.length ≤ 1000000000 := by omega
    have b2 : (putB w [u64 a.ID]).length ≤ 1000000000 := by omega
    have b3 : (putB (putB w [u64 a.ID]) [a.Bits]).length ≤ 1000000000 := by omega
    cases ho : a.On
    · rw [ho] at e e3
      simp [-List.map_append, hi, ha, ho, cNum32, cVar, e2, b1, b2, b3, bitI, vcLoose, heapsOf]
      exact ⟨by omega, by rw [g1, e]; simp [bitI], by simp [bitI] at e3; omega⟩
    · rw [ho] at e e3
      simp [-List.map_append, hi, ha, ho, cNum32, cVar, e2, b1, b2, b3, bitI, vcLoose, heapsOf]
      exact ⟨by omega, by rw [g1, e]; simp [bitI], by simp [bitI] at e3; omega⟩
  · have e : putB w (handsF []) = w := putB_nil w
    rw [e] at g1
    simp [g1]
def cHands32 : Ctr := V2 (fun (b : List (BitVec 8)) (l : List Hand) => b.length + 100 * l.length ≤ 800000000) fun b l => en (putB b (handsW l))
theorem known_r32_hands : Known Tryz.prog 26 cHands32 := known_V2 (fun b n h => det_r32_hands b n h) fun b n _ => closed_en _
/-- Bytes that a loop begins with nothing. -/
def nv (w : List (BitVec 8)) : AV := if w = [] then .nils else .view (w.map Cel.c)
theorem putB_ne (w : List (BitVec 8)) (x : BitVec 64) (l : List (BitVec 64)) : putB w (x :: l) ≠ [] := by
  unfold putB vars
  rw [List.flatMap_cons]
  have : varB x.toNat ≠ [] := by unfold varB; split <;> simp
  simp [this]
theorem nv_ne {w : List (BitVec 8)} (h : w ≠ []) : nv w = .view (w.map Cel.c) := if_neg h
@[simp] theorem nv_put (w : List (BitVec 8)) (x : BitVec 64) (l : List (BitVec 64)) : nv (putB w (x :: l)) = .view ((putB w (x :: l)).map Cel.c) := nv_ne (putB_ne _ _ _)
@[simp] theorem nv_nil : nv [] = .nils := rfl
@[simp] theorem low_nv (k : Nat) (w : List (BitVec 8)) : Low k (nv w) := by unfold nv; split <;> simp
@[simp] theorem isAgg_nv (w : List (BitVec 8)) : isAgg (nv w) = false := by unfold nv; split <;> rfl
@[simp] theorem cellsL_nv (w : List (BitVec 8)) : cellsL (nv w) = [nv w] := by unfold nv; split <;> rfl
@[simp] theorem ok_nv (H : List AObj) (w : List (BitVec 8)) : Cel.ok (α := List (BitVec 8)) H [nv w] := by unfold nv; split <;> simp
@[simp] theorem u_nv (H : List AObj) (w : List (BitVec 8)) : Cel.u (α := List (BitVec 8)) H [nv w] = w := by unfold nv; split <;> simp [*]
def nums8 (x : Rul) : List Int := [x.Tasks, x.Crew, x.Units, x.Lease, x.Tries, x.Rate, x.Start, (x.Aisles.length : Int)]
theorem nums8_len (x : Rul) : (nums8 x).length = 8 := rfl
theorem det_r32_rules (x : Rul) (h : x.Aisles.length ≤ 1000000) (hx : ∀ a ∈ x.Aisles, smallPt a.Low ∧ smallPt a.High) : Det Tryz.prog 22 [en x] [] (en (putB [] (rulW x))) [] := by
  refine det_finF mixed0 (knows_cons known_r32_num (knows_cons known_r32_point knows_nil)) ok_r32_rules 1 (by simp) ?_
  have hL := nums8_len x
  have hv : AV.view ((nums8 x).map Cel.c) = AV.view [[AV.int IntKind.i64 x.Tasks], [AV.int IntKind.i64 x.Crew], [AV.int IntKind.i64 x.Units], [AV.int IntKind.i64 x.Lease], [AV.int IntKind.i64 x.Tries], [AV.int IntKind.i64 x.Rate], [AV.int IntKind.i64 x.Start], [AV.int IntKind.i64 (x.Aisles.length : Int)]] := rfl
  have hR : rulW x = (nums8 x).map u64 ++ aisF x.Aisles := rfl
  simp [ic_r32_rules, rs_r32_rules]
  rw [← hv, hR]
  generalize nums8 x = L at *
  refine LoopC.scanB (0 : Int) L (fun i (w : List (BitVec 8)) => ⟨[(1, .ptr 0 0 0), (3, nv w), (4, .view (L.map Cel.c)), (5, .int .i64 i)], [.rows 8 [Cel.c x]]⟩) (fun i w q => putB [] (L.map u64) = putB w (q.map u64) ∧ w.length + 10 * q.length ≤ 80) [] (by simp) (by simp) ⟨rfl, by simp [hL]⟩ (fun i a q w hi ha hd ⟨g1, g2⟩ => ?_) fun w ⟨g1, g2⟩ => ?_
  · simp at g2
    have e1 := putB_len w [u64 a]
    simp at e1
    have e : putB w ((a :: q).map u64) = putB (putB w [u64 a]) (q.map u64) := by rw [putB_putB]; rfl
    have b1 : w.length ≤ 1000000000 := by omega
    simp [hi, ha, cNum32, b1, vcLoose, heapsOf]
    exact ⟨by omega, putB w [u64 a], by simp, by rw [g1, e], by omega⟩
  · have ew : w = putB [] (L.map u64) := by rw [g1, List.map_nil, putB_nil]
    have hw : w.length ≤ 80 := by simp at g2; omega
    have hne : w ≠ [] := by
      rw [ew]
      cases L with
      | nil => simp at hL
      | cons y t => exact putB_ne _ _ _
    simp [vcLoose, heapsOf]
    refine LoopC.scanB Ais.zero x.Aisles (fun i (w : List (BitVec 8)) => ⟨[(1, .ptr 0 0 0), (3, .view (w.map Cel.c)), (6, .int .i64 i)], [.rows 8 [Cel.c x]]⟩) (fun i v q => (putB w (aisF x.Aisles) = putB v (aisF q) ∧ v.length + 100 * q.length ≤ 200000000) ∧ ∀ a ∈ q, smallPt a.Low ∧ smallPt a.High) w (by simp) (by simp [nv_ne hne]) ⟨⟨rfl, by omega⟩, hx⟩ (fun i a q v hi ha hd ⟨⟨g1, g2⟩, g3⟩ => ?_) fun v ⟨⟨g1, g2⟩, g3⟩ => ?_
    · simp at g2
      obtain ⟨s1, s2⟩ := g3 a (by simp)
      have e1 := putB_len v [u64 a.ID]
      have e2 := putB_len (putB v [u64 a.ID]) (ptW a.Low)
      have e3 := putB_len (putB (putB v [u64 a.ID]) (ptW a.Low)) (ptW a.High)
      simp only [ptW, List.length_cons, List.length_nil] at e1 e2 e3
      have e : putB v (aisF (a :: q)) = putB (putB (putB v [u64 a.ID]) (ptW a.Low) |> (putB · (ptW a.High))) (aisF q) := by
        show _ = putB (putB (putB (putB v [u64 a.ID]) (ptW a.Low)) (ptW a.High)) (aisF q)
        rw [putB_putB, putB_putB, putB_putB]; simp [aisF, aisW]
      have b1 : v.length ≤ 1000000000 := by omega
      have b2 : (putB v [u64 a.ID]).length ≤ 900000000 := by omega
      have b3 : (putB (putB v [u64 a.ID]) (ptW a.Low)).length ≤ 900000000 := by simp only [ptW]; omega
      simp [hi, ha, cNum32, cPoint32, b1, b2, b3, s1, s2, vcLoose, heapsOf]
      exact ⟨by omega, ⟨by rw [g1, e], by simp only [ptW]; omega⟩, fun y hy => g3 y (by simp [hy])⟩
    · have e : putB v (aisF []) = v := putB_nil v
      rw [e] at g1
      rw [← putB_putB, ← ew, g1]
      simp
def cRules32 : Ctr := V1 (fun x : Rul => x.Aisles.length ≤ 1000000 ∧ ∀ a ∈ x.Aisles, smallPt a.Low ∧ smallPt a.High) fun x => en (putB [] (rulW x))
theorem known_r32_rules : Known Tryz.prog 22 cRules32 := known_V1 (fun x h => det_r32_rules x h.1 h.2) fun x _ => closed_en _
end Go.Proofs.YtnckibgcjgeekaaGreat.Sx
/- Package snap: Encode, and the document's. No conditions: a kit of our own. -/
namespace Go.Proofs.YtnckibgcjgeekaaGreat.Sx
open Go Go.RowKit
set_option linter.unusedVariables false
set_option linter.unusedSimpArgs false

/-! ### what a state's shape tells of its numbers -/
theorem i64_of {n : Int} (h : -1000000000000 ≤ n ∧ n ≤ 1000000000000) : isI64 n := by unfold isI64; omega
theorem small_pt {p : Pt} (h : small p 1000 = true) : (-1000 ≤ p.X ∧ p.X ≤ 1000) ∧ -1000 ≤ p.Y ∧ p.Y ≤ 1000 := by
  simp [small] at h; omega
theorem small_smallPt {p : Pt} (h : (-1000 ≤ p.X ∧ p.X ≤ 1000) ∧ -1000 ≤ p.Y ∧ p.Y ≤ 1000) : smallPt p := ⟨i64_of (by omega), i64_of (by omega)⟩
structure rulG (r : Rul) : Prop where
  n : r.Aisles.length ≤ 32
  ai : ∀ a ∈ r.Aisles, smallPt a.Low ∧ smallPt a.High
structure tskG (x : Tsk) : Prop where
  fr : smallPt x.Sp.From
  to : smallPt x.Sp.To
  af : x.Sp.After.length ≤ 8
  bl : x.Burnt.length ≤ 16
structure lseG (x : Lse) : Prop where
  d : isI64 (x.Due + 1)
  l : x.Want.length ≤ 32
structure sttG (s : Stt) : Prop where
  tl : s.Tasks.length ≤ 64
  ts : ∀ x ∈ s.Tasks, tskG x
  cl : s.Crew.length ≤ 16
  ul : s.Units.length ≤ 16
  ll : s.Leases.length ≤ 16
  ls : ∀ x ∈ s.Leases, lseG x
  kl : s.Locks.length ≤ 32
  ks : ∀ x ∈ s.Locks, x.Wait.length ≤ 64
theorem planG_ais : ∀ (l : List Ais) (last : Int) (pre : List Ais), planG last pre l = true → ∀ a ∈ l, smallPt a.Low ∧ smallPt a.High
  | [], _, _, _ => by simp
  | a :: r, last, pre, h => by
    simp [planG, aisOk] at h
    obtain ⟨⟨⟨⟨⟨⟨⟨h1, h2⟩, h3⟩, h4⟩, h5⟩, h6⟩, h7⟩, h8⟩ := h
    intro b hb
    rcases List.mem_cons.1 hb with rfl | hb
    · exact ⟨small_smallPt (small_pt h3), small_smallPt (small_pt h4)⟩
    · exact planG_ais r a.ID _ h8 b hb
theorem rul_G {r : Rul} (h : rulErr r = 0) : rulG r := by
  unfold rulErr at h
  split at h
  · rename_i h1
    split at h
    · rename_i h2
      simp [planOk] at h2
      exact ⟨h2.1, planG_ais _ 0 [] h2.2⟩
    · simp at h
  · simp at h
theorem rul_crew {r : Rul} (h : rulErr r = 0) : r.Crew ≤ 16 ∧ r.Units ≤ 16 := by
  unfold rulErr at h
  split at h
  · rename_i h1
    simp [rulOk, inR] at h1
    omega
  · simp at h
theorem spec_G {x : Spec} (h : specErr x = 0) : small x.From 1000 = true ∧ small x.To 1000 = true ∧ x.After.length ≤ 8 := by
  unfold specErr at h
  split at h
  · simp at h
  · rename_i h1
    split at h
    · simp at h
    · rename_i h2
      simp at h1 h2
      obtain ⟨⟨⟨⟨a1, a2⟩, a3⟩, a5⟩, a6⟩ := h1
      exact ⟨a5, a6, by omega⟩
theorem shp_zero {r : Rul} {s : Stt} (h : shpErr r s = 0) : rulErr r = 0 ∧ fitS r s = true ∧ ordS r s = true ∧ witS r s = true := by
  unfold shpErr at h
  split at h
  · rename_i h1; exact absurd h h1
  · rename_i h1
    split at h
    · simp at h
    · rename_i h2
      split at h
      · simp at h
      · rename_i h3
        split at h
        · simp at h
        · rename_i h4
          exact ⟨by simpa using h1, by simpa using h2, by simpa using h3, by simpa using h4⟩
theorem stt_G {r : Rul} {s : Stt} (h : shpErr r s = 0) : sttG s := by
  obtain ⟨h1, h2, h3, h4⟩ := shp_zero h
  have g := (rul_G h1).n
  have g2 := rulErr_zero h1
  simp only [fitS, p_fits_1, p_fits_2, p_fits_3, Bool.and_eq_true, decide_eq_true_eq, List.all_eq_true] at h2
  simp only [witS, inR, p_within_3, p_within_4, p_within_5, Qid, Qtick, Qtoken, Bool.and_eq_true, decide_eq_true_eq, List.all_eq_true] at h4
  obtain ⟨⟨⟨⟨⟨⟨⟨a1, a2⟩, a3⟩, a4⟩, a5⟩, a6⟩, a7⟩, a8⟩ := h2
  obtain ⟨⟨⟨⟨⟨⟨⟨b1, b2⟩, b3⟩, b4⟩, b5⟩, b6⟩, b7⟩, b8⟩ := h4
  have hc := rul_crew h1
  refine ⟨by omega, fun x hx => ?_, by omega, by omega, by omega, fun x hx => ⟨?_, ?_⟩, by omega, fun x hx => a8 x hx⟩
  · obtain ⟨c1, c2, c3⟩ := spec_G (b4 x hx).1.1.1.1.1
    exact ⟨small_smallPt (small_pt c1), small_smallPt (small_pt c2), c3, a6 x hx⟩
  · have := (b7 x hx).1.2
    exact i64_of (by omega)
  · have := a7 x hx
    omega

/-! ### a state's code -/
def tskF (l : List Tsk) : List (BitVec 64) := l.flatMap tskW
def lseF (l : List Lse) : List (BitVec 64) := l.flatMap lseW
def lckF (l : List Lck) : List (BitVec 64) := l.flatMap lckW
def rest3 (s : Stt) : List (BitVec 64) := u64 s.Locks.length :: lckF s.Locks
def rest2 (s : Stt) : List (BitVec 64) := u64 s.Leases.length :: (lseF s.Leases ++ rest3 s)
def rest1 (s : Stt) : List (BitVec 64) := handsW s.Crew ++ (handsW s.Units ++ rest2 s)
def encW (r : Rul) (s : Stt) : List (BitVec 64) := rulW r ++ ([u64 s.Now, u64 s.Seq, u64 s.Token, u64 s.Tasks.length] ++ (tskF s.Tasks ++ rest1 s))
def encP (r : Rul) (s : Stt) : List (BitVec 8) × Int := if shpErr r s ≠ 0 then ([], shpErr r s) else (putB [] (encW r s), 0)
def encV32 (r : Rul) (s : Stt) : AV := .tup [en (encP r s).1, en (encP r s).2]
theorem lay_eq (w : Wr) (ws : List (BitVec 64)) : lay w ws = ⟨putB w.B ws⟩ := by unfold lay putB; rfl
theorem flat_len {α : Type} {f : α → List (BitVec 64)} {l : List α} {n : Nat} (h : ∀ x ∈ l, (f x).length ≤ n) : (l.flatMap f).length ≤ n * l.length := by
  induction l with
  | nil => simp
  | cons a l ih =>
    have h1 := h a (by simp)
    have h2 := ih fun x hx => h x (by simp [hx])
    rw [List.flatMap_cons, List.length_append, List.length_cons, Nat.mul_add]; omega
theorem handsW_len (l : List Hand) : (handsW l).length ≤ 1 + 3 * l.length := by
  have := flat_len (l := l) (f := handW) (n := 3) fun x _ => by simp [handW]
  unfold handsW
  rw [List.length_cons]; omega
theorem rulW_len (r : Rul) : (rulW r).length ≤ 8 + 5 * r.Aisles.length := by
  have := flat_len (l := r.Aisles) (f := aisW) (n := 5) fun x _ => by simp [aisW, ptW]
  unfold rulW
  rw [List.length_append]; simp only [List.length_cons, List.length_nil]; omega
theorem le_putB {b : List (BitVec 8)} {ws : List (BitVec 64)} {n : Nat} (h : b.length + 10 * ws.length ≤ n) : (putB b ws).length ≤ n := Nat.le_trans (putB_len b ws) h
theorem listW_len (l : List Int) : (listW l).length = 1 + l.length := by simp [listW]; omega
theorem specW_len (x : Spec) : (specNums x).length = 9 + x.After.length := by simp [specNums]; omega
attribute [local irreducible] putB
theorem put_spec (b : List (BitVec 8)) (x : Spec) : b ++ vars (specNums x) = putB b (specNums x) := by unfold putB; rfl
set_option maxHeartbeats 2000000 in
theorem det_snap_Encode (r : Rul) (s : Stt) (hs : okS s) (hr : r.Aisles.length ≤ 1000000) : Det Tryz.prog 7 [en r, en s] [] (encV32 r s) [] := by
  refine det_finF mixed0 (knows_cons known_Shape (knows_cons known_WRules (knows_cons known_WNums (knows_cons known_PutSpec (knows_cons known_WList (knows_cons known_WHands knows_nil)))))) ok_snap_Encode 2 (by simp) ?_
  by_cases he : shpErr r s = 0
  · have ev : encV32 r s = .tup [en (putB [] (encW r s)), en (0 : Int)] := by simp [encV32, encP, he]
    obtain ⟨r1, r2⟩ := rul_G (shp_zero he).1
    have g := stt_G he
    have hrl : r.Aisles.length ≤ 1073741824 := by omega
    have hrw : rulOk2 ⟨[]⟩ r := ⟨by simp; omega, r2⟩
    have lr := rulW_len r
    rw [ev]
    simp [-List.map_append, ic_snap_Encode, rs_snap_Encode, cShape, he, hs, hrl, cWRules, hrw, cWNums, lay_eq, putB_putB]
    have hcr := handsW_len s.Crew
    have hun := handsW_len s.Units
    have g1 := g.tl
    have g2 := g.cl
    have g3 := g.ul
    have g4 := g.ll
    have g5 := g.kl
    refine ⟨le_putB (by simp; omega), ?_⟩
    refine LoopC.scanB Tsk.zero s.Tasks (fun i (b : List (BitVec 8)) => ⟨[(3, .ptr 1 0 0), (7, .ptr 2 0 0), (38, .view (s.Tasks.map Cel.c)), (39, .int .i64 s.Tasks.length), (40, .int .i64 i)], [.rows 8 [Cel.c r], .rows 8 [Cel.c s], .rows 1 [Cel.c (⟨b⟩ : Wr)]]⟩) (fun i b q => (putB [] (encW r s) = putB b (tskF q ++ rest1 s) ∧ b.length + 1000 * q.length ≤ 100000) ∧ ∀ x ∈ q, tskG x) (putB [] (rulW r ++ [u64 s.Now, u64 s.Seq, u64 s.Token, u64 s.Tasks.length])) (by simp) (by simp [-List.map_append]) ⟨⟨by rw [putB_putB]; simp [encW], ?_⟩, g.ts⟩ (fun i a q b hi ha hd ⟨⟨k1, k2⟩, k3⟩ => ?_) fun b ⟨⟨k1, k2⟩, k3⟩ => ?_
    · have : (putB [] (rulW r ++ [u64 s.Now, u64 s.Seq, u64 s.Token, u64 s.Tasks.length])).length ≤ 10000 := le_putB (by simp; omega)
      omega
    · simp at k2
      obtain ⟨s1, s2, s3, s4⟩ := k3 a (by simp)
      have e : putB b (tskF (a :: q) ++ rest1 s) = putB (putB b (specNums a.Sp ++ ([u64 a.Status, u64 a.Seq, u64 a.Since, u64 a.Lost] ++ listW a.Burnt))) (tskF q ++ rest1 s) := by
        rw [putB_putB]; simp [tskF, tskW]
      have hv := specW_len a.Sp
      have hok : putOk b a.Sp := ⟨by omega, by omega, s1, s2⟩
      simp [-List.map_append, hi, ha, cWNums, cWList, cPutSpec, hok, put_spec, lay_eq, putB_putB, vcLoose, heapsOf]
      refine ⟨le_putB (by omega), Nat.le_trans (Nat.add_le_add_right (putB_len _ _) _) (by simp; omega), by omega, _, seenOb_self _, ⟨by rw [k1, e]; simp, Nat.le_trans (Nat.add_le_add_right (putB_len _ _) _) (by simp [listW]; omega)⟩, fun x hx => k3 x (by simp [hx])⟩
    · have kz : tskF [] ++ rest1 s = rest1 s := rfl
      rw [kz] at k1
      simp only [List.length_nil] at k2
      simp [-List.map_append, cWHands, cWNums, lay_eq, putB_putB, vcLoose, heapsOf]
      have l1 := putB_len b (handsW s.Crew)
      have l2 := putB_len b (handsW s.Crew ++ handsW s.Units)
      have l3 := putB_len b (handsW s.Crew ++ (handsW s.Units ++ [u64 s.Leases.length]))
      simp only [List.length_append, List.length_cons, List.length_nil] at l2 l3
      refine ⟨by omega, by omega, by omega, ?_⟩
      refine LoopC.scanB Lse.zero s.Leases (fun i (b : List (BitVec 8)) => ⟨[(3, .ptr 1 0 0), (7, .ptr 2 0 0), (85, .view (s.Leases.map Cel.c)), (86, .int .i64 s.Leases.length), (87, .int .i64 i)], [.rows 8 [Cel.c r], .rows 8 [Cel.c s], .rows 1 [Cel.c (⟨b⟩ : Wr)]]⟩) (fun i b q => (putB [] (encW r s) = putB b (lseF q ++ rest3 s) ∧ b.length + 1000 * q.length ≤ 200000) ∧ ∀ x ∈ q, lseG x) (putB b (handsW s.Crew ++ (handsW s.Units ++ [u64 s.Leases.length]))) (by simp) (by simp [-List.map_append]) ⟨⟨by rw [k1, putB_putB]; simp [rest1, rest2], by omega⟩, g.ls⟩ (fun i a q b hi ha hd ⟨⟨k1, k2⟩, k3⟩ => ?_) fun b ⟨⟨k1, k2⟩, k3⟩ => ?_
      · simp at k2
        obtain ⟨s1, s2⟩ := k3 a (by simp)
        have e : putB b (lseF (a :: q) ++ rest3 s) = putB (putB b ([u64 a.Token, u64 a.Task, u64 a.Worker, u64 a.Un, u64 (a.Due + 1), u64 a.Got] ++ listW a.Want)) (lseF q ++ rest3 s) := by
          rw [putB_putB]; simp [lseF, lseW]
        simp [-List.map_append, hi, ha, cWNums, cWList, wrap_i64 _ s1, lay_eq, putB_putB, vcLoose, heapsOf]
        refine ⟨s1, by omega, Nat.le_trans (Nat.add_le_add_right (putB_len _ _) _) (by simp; omega), by omega, _, seenOb_self _, ⟨by rw [k1, e]; simp, Nat.le_trans (Nat.add_le_add_right (putB_len _ _) _) (by simp [listW]; omega)⟩, fun x hx => k3 x (by simp [hx])⟩
      · have kz : lseF [] ++ rest3 s = rest3 s := rfl
        rw [kz] at k1
        simp only [List.length_nil] at k2
        simp [-List.map_append, cWNums, lay_eq, putB_putB, vcLoose, heapsOf]
        have l4 := putB_len b [u64 s.Locks.length]
        simp only [List.length_cons, List.length_nil] at l4
        refine ⟨by omega, ?_⟩
        refine LoopC.scanB Lck.zero s.Locks (fun i (b : List (BitVec 8)) => ⟨[(7, .ptr 2 0 0), (119, .view (s.Locks.map Cel.c)), (120, .int .i64 s.Locks.length), (121, .int .i64 i)], [.rows 8 [Cel.c r], .rows 8 [Cel.c s], .rows 1 [Cel.c (⟨b⟩ : Wr)]]⟩) (fun i b q => (putB [] (encW r s) = putB b (lckF q) ∧ b.length + 1000 * q.length ≤ 300000) ∧ ∀ x ∈ q, x.Wait.length ≤ 64) (putB b [u64 s.Locks.length]) (by simp) (by simp [-List.map_append]) ⟨⟨by rw [k1, putB_putB]; simp [rest3], by omega⟩, g.ks⟩ (fun i a q b hi ha hd ⟨⟨k1, k2⟩, k3⟩ => ?_) fun b ⟨⟨k1, k2⟩, k3⟩ => ?_
        · simp at k2
          have s1 := k3 a (by simp)
          have e : putB b (lckF (a :: q)) = putB (putB b ([u64 a.ID, u64 a.Holder] ++ listW a.Wait)) (lckF q) := by
            rw [putB_putB]; simp [lckF, lckW]
          simp [-List.map_append, hi, ha, cWNums, cWList, lay_eq, putB_putB, vcLoose, heapsOf]
          refine ⟨by omega, Nat.le_trans (Nat.add_le_add_right (putB_len _ _) _) (by simp; omega), by omega, _, seenOb_self _, ⟨by rw [k1, e]; simp, Nat.le_trans (Nat.add_le_add_right (putB_len _ _) _) (by simp [listW]; omega)⟩, fun x hx => k3 x (by simp [hx])⟩
        · have kz : lckF [] = [] := rfl
          rw [kz, putB_nil] at k1
          simp [-List.map_append, k1, vcLoose, heapsOf]
  · have hrl : r.Aisles.length ≤ 1073741824 := by omega
    have ev : encV32 r s = .tup [en ([] : List (BitVec 8)), en (shpErr r s)] := by simp [encV32, encP, he]
    rw [ev]
    simp [-List.map_append, ic_snap_Encode, rs_snap_Encode, cShape, he, hs, hrl]
def cEncode32 : Ctr := V2 (fun (r : Rul) (s : Stt) => okS s ∧ r.Aisles.length ≤ 1000000) fun r s => encV32 r s
theorem known_snap_Encode : Known Tryz.prog 7 cEncode32 := known_V2 (fun r s h => det_snap_Encode r s h.1 h.2) fun r s _ => closed_pair _ _
set_option maxHeartbeats 2000000 in
theorem det_r32_Encode (r : Rul) (s : Stt) (hs : okS s) (hr : r.Aisles.length ≤ 1000000) : Det Tryz.prog 8 [en r, en s] [] (encV32 r s) [] := by
  refine det_finF mixed0 (knows_cons known_r30_Shape (knows_cons known_r32_rules (knows_cons known_r32_num (knows_cons known_r29_PutSpec (knows_cons known_r32_list (knows_cons known_r32_hands knows_nil)))))) ok_r32_Encode 2 (by simp) ?_
  have hrl : r.Aisles.length ≤ 1073741824 := by omega
  by_cases he : shpErr r s = 0
  · have ev : encV32 r s = .tup [en (putB [] (encW r s)), en (0 : Int)] := by simp [encV32, encP, he]
    obtain ⟨r1, r2⟩ := rul_G (shp_zero he).1
    have g := stt_G he
    have hrw : r.Aisles.length ≤ 1000000 ∧ ∀ a ∈ r.Aisles, smallPt a.Low ∧ smallPt a.High := ⟨hr, r2⟩
    have lr := rulW_len r
    have hcr := handsW_len s.Crew
    have hun := handsW_len s.Units
    have g1 := g.tl
    have g2 := g.cl
    have g3 := g.ul
    have g4 := g.ll
    have g5 := g.kl
    have q0 := putB_len [] (rulW r)
    have q1 := putB_len [] (rulW r ++ [u64 s.Now])
    have q2 := putB_len [] (rulW r ++ [u64 s.Now, u64 s.Seq])
    have q3 := putB_len [] (rulW r ++ [u64 s.Now, u64 s.Seq, u64 s.Token])
    have q4 := putB_len [] (rulW r ++ [u64 s.Now, u64 s.Seq, u64 s.Token, u64 s.Tasks.length])
    simp only [List.length_append, List.length_cons, List.length_nil] at q1 q2 q3 q4 q0
    rw [ev]
    simp [-List.map_append, ic_r32_Encode, rs_r32_Encode, cShape, he, hs, hrl, cRules32, hr, cNum32, putB_putB]
    refine ⟨r2, by omega, by omega, by omega, by omega, ?_⟩
    refine LoopC.scanB Tsk.zero s.Tasks (fun i (b : List (BitVec 8)) => ⟨[(3, .ptr 1 0 0), (7, .view (b.map Cel.c)), (8, .int .i64 i)], [.rows 8 [Cel.c r], .rows 8 [Cel.c s]]⟩) (fun i b q => (putB [] (encW r s) = putB b (tskF q ++ rest1 s) ∧ b.length + 1000 * q.length ≤ 100000) ∧ ∀ x ∈ q, tskG x) (putB [] (rulW r ++ [u64 s.Now, u64 s.Seq, u64 s.Token, u64 s.Tasks.length])) (by simp) (by simp [-List.map_append]) ⟨⟨by rw [putB_putB]; simp [encW], by omega⟩, g.ts⟩ (fun i a q b hi ha hd ⟨⟨k1, k2⟩, k3⟩ => ?_) fun b ⟨⟨k1, k2⟩, k3⟩ => ?_
    · simp at k2
      obtain ⟨s1, s2, s3, s4⟩ := k3 a (by simp)
      have e : putB b (tskF (a :: q) ++ rest1 s) = putB (putB b (specNums a.Sp ++ ([u64 a.Status, u64 a.Seq, u64 a.Since, u64 a.Lost] ++ listW a.Burnt))) (tskF q ++ rest1 s) := by
        rw [putB_putB]; simp [tskF, tskW]
      have hv := specW_len a.Sp
      have hok : putOk b a.Sp := ⟨by omega, by omega, s1, s2⟩
      have v0 := putB_len b (specNums a.Sp)
      have v1 := putB_len b (specNums a.Sp ++ [u64 a.Status])
      have v2 := putB_len b (specNums a.Sp ++ [u64 a.Status, u64 a.Seq])
      have v3 := putB_len b (specNums a.Sp ++ [u64 a.Status, u64 a.Seq, u64 a.Since])
      have v4 := putB_len b (specNums a.Sp ++ [u64 a.Status, u64 a.Seq, u64 a.Since, u64 a.Lost])
      have v5 := putB_len b (specNums a.Sp ++ u64 a.Status :: u64 a.Seq :: u64 a.Since :: u64 a.Lost :: listW a.Burnt)
      simp only [List.length_append, List.length_cons, List.length_nil, listW_len] at v1 v2 v3 v4 v5
      simp [-List.map_append, hi, ha, cNum32, cList32, cPutSpec, hok, put_spec, putB_putB, vcLoose, heapsOf]
      exact ⟨by omega, by omega, by omega, by omega, by omega, by omega, ⟨by rw [k1, e, putB_putB]; simp, by omega⟩, fun x hx => k3 x (by simp [hx])⟩
    · have kz : tskF [] ++ rest1 s = rest1 s := rfl
      rw [kz] at k1
      simp only [List.length_nil] at k2
      simp [-List.map_append, cHands32, cNum32, putB_putB, vcLoose, heapsOf]
      have l1 := putB_len b (handsW s.Crew)
      have l2 := putB_len b (handsW s.Crew ++ handsW s.Units)
      have l3 := putB_len b (handsW s.Crew ++ (handsW s.Units ++ [u64 s.Leases.length]))
      simp only [List.length_append, List.length_cons, List.length_nil] at l2 l3
      refine ⟨by omega, by omega, by omega, ?_⟩
      refine LoopC.scanB Lse.zero s.Leases (fun i (b : List (BitVec 8)) => ⟨[(3, .ptr 1 0 0), (7, .view (b.map Cel.c)), (10, .int .i64 i)], [.rows 8 [Cel.c r], .rows 8 [Cel.c s]]⟩) (fun i b q => (putB [] (encW r s) = putB b (lseF q ++ rest3 s) ∧ b.length + 1000 * q.length ≤ 200000) ∧ ∀ x ∈ q, lseG x) (putB b (handsW s.Crew ++ (handsW s.Units ++ [u64 s.Leases.length]))) (by simp) (by simp [-List.map_append]) ⟨⟨by rw [k1, putB_putB]; simp [rest1, rest2], by omega⟩, g.ls⟩ (fun i a q b hi ha hd ⟨⟨k1, k2⟩, k3⟩ => ?_) fun b ⟨⟨k1, k2⟩, k3⟩ => ?_
      · simp at k2
        obtain ⟨s1, s2⟩ := k3 a (by simp)
        have e : putB b (lseF (a :: q) ++ rest3 s) = putB (putB b ([u64 a.Token, u64 a.Task, u64 a.Worker, u64 a.Un, u64 (a.Due + 1), u64 a.Got] ++ listW a.Want)) (lseF q ++ rest3 s) := by
          rw [putB_putB]; simp [lseF, lseW]
        have v1 := putB_len b [u64 a.Token]
        have v2 := putB_len b [u64 a.Token, u64 a.Task]
        have v3 := putB_len b [u64 a.Token, u64 a.Task, u64 a.Worker]
        have v4 := putB_len b [u64 a.Token, u64 a.Task, u64 a.Worker, u64 a.Un]
        have v5 := putB_len b [u64 a.Token, u64 a.Task, u64 a.Worker, u64 a.Un, u64 (a.Due + 1)]
        have v6 := putB_len b [u64 a.Token, u64 a.Task, u64 a.Worker, u64 a.Un, u64 (a.Due + 1), u64 a.Got]
        have v7 := putB_len b (u64 a.Token :: u64 a.Task :: u64 a.Worker :: u64 a.Un :: u64 (a.Due + 1) :: u64 a.Got :: listW a.Want)
        simp only [List.length_append, List.length_cons, List.length_nil, listW_len] at v1 v2 v3 v4 v5 v6 v7
        simp [-List.map_append, hi, ha, cNum32, cList32, wrap_i64 _ s1, putB_putB, vcLoose, heapsOf]
        exact ⟨by omega, by omega, by omega, by omega, s1, by omega, by omega, by omega, by omega, ⟨by rw [k1, e, putB_putB]; simp, by omega⟩, fun x hx => k3 x (by simp [hx])⟩
      · have kz : lseF [] ++ rest3 s = rest3 s := rfl
        rw [kz] at k1
        simp only [List.length_nil] at k2
        simp [-List.map_append, cNum32, putB_putB, vcLoose, heapsOf]
        have l4 := putB_len b [u64 s.Locks.length]
        simp only [List.length_cons, List.length_nil] at l4
        refine ⟨by omega, ?_⟩
        refine LoopC.scanB Lck.zero s.Locks (fun i (b : List (BitVec 8)) => ⟨[(3, .ptr 1 0 0), (7, .view (b.map Cel.c)), (12, .int .i64 i)], [.rows 8 [Cel.c r], .rows 8 [Cel.c s]]⟩) (fun i b q => (putB [] (encW r s) = putB b (lckF q) ∧ b.length + 1000 * q.length ≤ 300000) ∧ ∀ x ∈ q, x.Wait.length ≤ 64) (putB b [u64 s.Locks.length]) (by simp) (by simp [-List.map_append]) ⟨⟨by rw [k1, putB_putB]; simp [rest3], by omega⟩, g.ks⟩ (fun i a q b hi ha hd ⟨⟨k1, k2⟩, k3⟩ => ?_) fun b ⟨⟨k1, k2⟩, k3⟩ => ?_
        · simp at k2
          have s1 := k3 a (by simp)
          have e : putB b (lckF (a :: q)) = putB (putB b ([u64 a.ID, u64 a.Holder] ++ listW a.Wait)) (lckF q) := by
            rw [putB_putB]; simp [lckF, lckW]
          have v1 := putB_len b [u64 a.ID]
          have v2 := putB_len b [u64 a.ID, u64 a.Holder]
          have v3 := putB_len b (u64 a.ID :: u64 a.Holder :: listW a.Wait)
          simp only [List.length_append, List.length_cons, List.length_nil, listW_len] at v1 v2 v3
          simp [-List.map_append, hi, ha, cNum32, cList32, putB_putB, vcLoose, heapsOf]
          exact ⟨by omega, by omega, by omega, by omega, ⟨by rw [k1, e, putB_putB]; simp, by omega⟩, fun x hx => k3 x (by simp [hx])⟩
        · have kz : lckF [] = [] := rfl
          rw [kz, putB_nil] at k1
          simp [-List.map_append, k1, vcLoose, heapsOf]
  · have ev : encV32 r s = .tup [en ([] : List (BitVec 8)), en (shpErr r s)] := by simp [encV32, encP, he]
    rw [ev]
    simp [-List.map_append, ic_r32_Encode, rs_r32_Encode, cShape, he, hs, hrl]
theorem known_r32_Encode : Known Tryz.prog 8 cEncode32 := known_V2 (fun r s h => det_r32_Encode r s h.1 h.2) fun r s _ => closed_pair _ _
end Go.Proofs.YtnckibgcjgeekaaGreat.Sx
