/- Package snap: the readers. No conditions: a kit of our own. -/
import Derived.Test.YtnckibgcjgeekaaGreatBy6
import Derived.Test.YtnckibgcjgeekaaGreatTy18
import Derived.Test.YtnckibgcjgeekaaGreatIrSd
import Derived.Test.YtnckibgcjgeekaaGreatFnSn2
namespace Go.Proofs.YtnckibgcjgeekaaGreat.Sx
open Go Go.RowKit
set_option linter.unusedVariables false
set_option linter.unusedSimpArgs false

theorem word_stop {r : Rdr} (h : r.E ≠ 0) : wordR r = r := by unfold wordR; rw [if_pos h]
theorem wordV_stop {r : Rdr} (h : r.E ≠ 0) : wordV r = 0#64 := by unfold wordV; rw [if_pos h]
theorem int_stop {r : Rdr} (h : r.E ≠ 0) : intR r = r := by unfold intR; rw [wordV_stop h, if_neg (by simp), word_stop h]
theorem intV_stop {r : Rdr} (h : r.E ≠ 0) : intV r = 0 := by unfold intV; rw [wordV_stop h]; simp
theorem many_stop {r : Rdr} {m e : Int} (hm : 0 ≤ m) (h : r.E ≠ 0) : manyR r m e = r := by unfold manyR; rw [intV_stop h, if_neg (by omega), int_stop h]
theorem takes_stop {r : Rdr} (h : r.E ≠ 0) (n : Nat) (acc : List Int) : takes n r acc = (r, acc) := by cases n <;> simp [takes, h]
theorem spec_stop {r : Rdr} (h : r.E ≠ 0) : specR r = r := by
  unfold specR takeN r7 r6 r5 r4 r3 r2 r1 pointR
  simp only [int_stop h, word_stop h, many_stop (by omega : (0 : Int) ≤ 8) h, takes_stop h]
/-- Behind an error nothing is left. -/
def Nb (r : Rdr) : Prop := r.E ≠ 0 → r.B = []
theorem nb_word {r : Rdr} (h : Nb r) : Nb (wordR r) := by
  unfold wordR
  split
  · exact h
  · split
    · exact fun _ => rfl
    · exact fun hh => absurd rfl hh
theorem nb_int {r : Rdr} (h : Nb r) : Nb (intR r) := by
  unfold intR
  split
  · exact fun _ => rfl
  · exact nb_word h
theorem nb_many {r : Rdr} {m e : Int} (h : Nb r) : Nb (manyR r m e) := by
  unfold manyR
  split
  · exact fun _ => rfl
  · exact nb_int h
theorem nb_takes : ∀ (n : Nat) {r : Rdr} {acc : List Int}, Nb r → Nb (takes n r acc).1
  | 0, r, acc, h => h
  | n + 1, r, acc, h => by
    unfold takes; split
    · exact h
    · exact nb_takes n (nb_int h)
theorem nb_spec {r : Rdr} (h : Nb r) : Nb (specR r) := nb_takes _ (nb_many (nb_int (nb_int (nb_int (nb_int (nb_word (nb_word (nb_int (nb_int h)))))))))
theorem det_sfail (r : Rdr) (e : Int) : Det Tryz.prog 38 [.ptr 0 0 0, en e] [.rows (Cel.n Rdr) [Cel.c r]] (.tup []) [.rows (Cel.n Rdr) [Cel.c (failR r e)]] := by
  refine det_finM mixed0 knows_nil ok_snap_reader_fail 1 (by simp) ?_
  simp [ic_snap_reader_fail, rs_snap_reader_fail]
  unfold failR
  refine ⟨fun h => ?_, fun h => ?_⟩
  · rw [if_pos h]
  · rw [if_neg h]
theorem known_SFail : Known Tryz.prog 38 cFail := known_M1 (fun r e _ => det_sfail r e) fun r e _ => .tup rfl fun i a b h => by simp at h
theorem det_sword (r : Rdr) (h : okR r) : Det Tryz.prog 71 [.ptr 0 0 0] [.rows (Cel.n Rdr) [Cel.c r]] (en (wordV r)) [.rows (Cel.n Rdr) [Cel.c (wordR r)]] := by
  refine det_finM mixed0 (knows_cons known_Unvar (knows_cons known_SFail knows_nil)) ok_snap_reader_word 1 (by simp) ?_
  simp [ic_snap_reader_word, rs_snap_reader_word, cUnvar, cFail, unvV]
  unfold wordV wordR failR
  have h' : r.B.length ≤ 1000000000 := h
  by_cases e : r.E = 0 <;> by_cases e2 : (unvar r.B).2.2 = 0 <;> simp [e, e2, h']
theorem known_SWord : Known Tryz.prog 71 cWord := known_M0 (fun r h => det_sword r h) fun r _ => closed_en _
theorem det_snum (r : Rdr) (h : okR r) : Det Tryz.prog 67 [.ptr 0 0 0] [.rows (Cel.n Rdr) [Cel.c r]] (en (intV r)) [.rows (Cel.n Rdr) [Cel.c (intR r)]] := by
  refine det_finM mixed0 (knows_cons known_SWord (knows_cons known_SFail knows_nil)) ok_snap_reader_num 1 (by simp) ?_
  simp [ic_snap_reader_num, rs_snap_reader_num, cWord, cFail]
  refine ⟨h, fun e => ⟨?_, ?_⟩, fun e => ⟨?_, ?_⟩⟩
  · unfold intV; rw [if_pos e]
  · unfold intR; rw [if_pos e, failR_word (by omega)]
  · unfold intV; rw [if_neg (by omega)]
    exact wrap_i64 _ (by unfold isI64; omega)
  · unfold intR; rw [if_neg (by omega)]
theorem known_SNum : Known Tryz.prog 67 cInt := known_M0 (fun r h => det_snum r h) fun r _ => closed_en _
theorem det_spoint (r : Rdr) (h : okR r) : Det Tryz.prog 68 [.ptr 0 0 0] [.rows (Cel.n Rdr) [Cel.c r]] (en (pointV r)) [.rows (Cel.n Rdr) [Cel.c (pointR r)]] := by
  refine det_finM mixed0 (knows_cons known_SNum (knows_cons known_Unzig knows_nil)) ok_snap_reader_point 1 (by simp) ?_
  have h1 := ok_intR h
  simp [ic_snap_reader_point, rs_snap_reader_point, cInt, cUnzig, wrap_u64']
  exact ⟨h, h1, ⟨rfl, rfl⟩, rfl⟩
def cPointR : Ctr := M0 okR pointR fun r => en (pointV r)
theorem known_SPoint : Known Tryz.prog 68 cPointR := known_M0 (fun r h => det_spoint r h) fun r _ => closed_en _
theorem det_sspec (r : Rdr) (h : okR r) : Det Tryz.prog 69 [.ptr 0 0 0] [.rows (Cel.n Rdr) [Cel.c r]] (en (specV r)) [.rows (Cel.n Rdr) [Cel.c (specR r)]] := by
  refine det_finM mixed0 (knows_cons known_TakeSpec (knows_cons known_SFail knows_nil)) ok_snap_reader_spec 2 (by simp) ?_
  have h' : r.B.length ≤ 1000000000 := h
  by_cases hE : r.E = 0
  · have er : (⟨r.B, 0⟩ : Rdr) = r := by rw [← hE]
    by_cases hS : (specR r).E = 0
    · have e2 : (⟨(specR r).B, 0⟩ : Rdr) = specR r := by rw [← hS]
      simp [ic_snap_reader_spec, rs_snap_reader_spec, cTakeSpec, takeV, cFail, h', hE, er, hS]
      exact e2
    · have e2 : failR r (specR r).E = specR r := by
        have := nb_spec (r := r) (fun h => absurd hE h) hS
        unfold failR
        rw [if_pos hE, ← this]
      have e3 : specV r = Spec.zero := by unfold specV; rw [if_pos hS]
      simp [ic_snap_reader_spec, rs_snap_reader_spec, cTakeSpec, takeV, cFail, h', hE, er, hS, e2, e3, Spec.zero]
  · have e2 := spec_stop hE
    have e3 : specV r = Spec.zero := by unfold specV; rw [e2, if_pos hE]
    simp [ic_snap_reader_spec, rs_snap_reader_spec, cTakeSpec, takeV, cFail, h', hE, e2, e3, Spec.zero]
def cSpecR : Ctr := M0 okR specR fun r => en (specV r)
theorem known_SSpec : Known Tryz.prog 69 cSpecR := known_M0 (fun r h => det_sspec r h) fun r _ => closed_en _
def handR (r : Rdr) : Rdr := if 1 < intV (wordR (intR r)) then ⟨[], 3⟩ else intR (wordR (intR r))
def handV (r : Rdr) : Hand := ⟨intV r, wordV (intR r), decide (intV (wordR (intR r)) = 1)⟩
def aisR (r : Rdr) : Rdr := pointR (pointR (intR r))
def aisV (r : Rdr) : Ais := ⟨intV r, pointV (intR r), pointV (pointR (intR r))⟩
theorem det_shand (r : Rdr) (h : okR r) : Det Tryz.prog 33 [.ptr 0 0 0] [.rows (Cel.n Rdr) [Cel.c r]] (en (handV r)) [.rows (Cel.n Rdr) [Cel.c (handR r)]] := by
  refine det_finM mixed0 (knows_cons known_SNum (knows_cons known_SWord (knows_cons known_SFail knows_nil))) ok_snap_reader_hand 2 (by simp) ?_
  have h1 := ok_intR h
  have h2 := ok_wordR h1
  have h3 := ok_intR h2
  simp [ic_snap_reader_hand, rs_snap_reader_hand, cInt, cWord, cFail, h, h1, h2, h3, handV, handR]
  refine ⟨fun hh => ?_, fun hh => by omega⟩
  rw [if_pos hh, failR_int (by omega)]
def cHandR : Ctr := M0 okR handR fun r => en (handV r)
theorem known_SHand : Known Tryz.prog 33 cHandR := known_M0 (fun r h => det_shand r h) fun r _ => closed_en _
theorem det_saisle (r : Rdr) (h : okR r) : Det Tryz.prog 29 [.ptr 0 0 0] [.rows (Cel.n Rdr) [Cel.c r]] (en (aisV r)) [.rows (Cel.n Rdr) [Cel.c (aisR r)]] := by
  refine det_finM mixed0 (knows_cons known_SNum (knows_cons known_SPoint knows_nil)) ok_snap_reader_aisle 2 (by simp) ?_
  have h1 := ok_intR h
  have h2 : okR (pointR (intR r)) := ok_intR (ok_intR h1)
  simp [ic_snap_reader_aisle, rs_snap_reader_aisle, cInt, cPointR, h, h1, h2, aisV, aisR]
def cAisR : Ctr := M0 okR aisR fun r => en (aisV r)
theorem known_SAisle : Known Tryz.prog 29 cAisR := known_M0 (fun r h => det_saisle r h) fun r _ => closed_en _
/-! ### numbers into places -/
def intsR : Nat → Rdr → Rdr
  | 0, r => r
  | n + 1, r => intsR n (intR r)
def setC : Rdr → List AV → List Nat → List AV
  | r, cs, [] => cs
  | r, cs, o :: l => setC (intR r) (cs.set o (.int .i64 (intV r))) l
theorem closed_set {cs : List AV} {o : Nat} {a : AV} (h : allC Closed cs) (ha : Closed a) : allC Closed (cs.set o a) := fun b hb => by
  rcases List.mem_or_eq_of_mem_set hb with hb | rfl
  · exact h b hb
  · exact ha
theorem closed_setC : ∀ (r : Rdr) (cs : List AV) (offs : List Nat), allC Closed cs → allC Closed (setC r cs offs)
  | r, cs, [], h => h
  | r, cs, o :: l, h => closed_setC _ _ l (closed_set h (.int _ _))
theorem ok_intsR : ∀ (n : Nat) {r : Rdr}, okR r → okR (intsR n r)
  | 0, r, h => h
  | n + 1, r, h => ok_intsR n (ok_intR h)
theorem over_one {cs : List AV} {o : Nat} {v : AV} (h : o < cs.length) : over cs o [v] = cs.set o v := by
  rw [over, List.set_eq_take_append_cons_drop, if_pos h]; simp
theorem nth_ptrs (j : Nat) {offs : List Nat} {i : Nat} (h : i < offs.length) : nth (ptrsTo j offs) i [AV.nilp] = [.ptr j 0 (nth offs i 0)] := by
  rw [nth_get (by simp [ptrsTo]; exact h), nth_get h]
  simp [ptrsTo]
theorem det_snums (r : Rdr) (sz : Nat) (cs : List AV) (offs : List Nat) (h : okR r) (hbig : offs.length ≤ 1000) (hc : allC Closed cs) (ho : ∀ o ∈ offs, o < cs.length) : Det Tryz.prog 27 [.ptr 0 0 0, .view (ptrsTo 1 offs)] [.rows (Cel.n Rdr) [Cel.c r], .rows sz [cs]] (.tup []) [.rows (Cel.n Rdr) [Cel.c (intsR offs.length r)], .rows sz [setC r cs offs]] := by
  refine det_finN mixed0 (knows_cons known_SNum knows_nil) ok_snap_reader_nums (by simp) (closed_setC _ _ _ hc) ?_
  have hl := low_ptrsTo (j := 1) (k := 2) (by omega) offs
  have hpl : (ptrsTo 1 offs).length = offs.length := by simp [ptrsTo]
  simp [ic_snap_reader_nums, hpl]
  refine LoopC.scanB (0 : Nat) offs (fun i (s : Rdr × List AV) => ⟨[(0, .ptr 0 0 0), (6, .view (ptrsTo 1 offs)), (7, .int .i64 offs.length), (8, .int .i64 i)], [.rows 2 [Cel.c s.1], .rows sz [s.2]]⟩) (fun i s q => (okR s.1 ∧ allC Closed s.2) ∧ intsR offs.length r = intsR q.length s.1 ∧ setC r cs offs = setC s.1 s.2 q ∧ ∀ o ∈ q, o < s.2.length) (r, cs) ?_ (by simp) ⟨⟨h, hc⟩, rfl, rfl, ho⟩ (fun i a q s hi ha hd ⟨⟨g1, g2⟩, g3, g4, g5⟩ => ?_) fun s ⟨⟨g1, g2⟩, g3, g4, g5⟩ => ?_
  · intro i b r hi hG
    simp [hl]
    exact fun a ha => Closed.seen (hG.1.2 a ha) _ _
  · have hn := nth_ptrs 1 hi
    have hlt := g5 a (by simp)
    rw [ha] at hn
    simp [hi, hn, hpl, cInt, g1, hlt, over_one hlt, vcLoose, heapsOf]
    refine ⟨hlt, by have := hbig; omega, intR s.1, s.2.set a (.int .i64 (intV s.1)), ⟨by simp, by simp⟩, ⟨ok_intR g1, closed_set g2 (.int _ _)⟩, by rw [g3]; rfl, by rw [g4]; rfl, fun o ho => by simp; exact g5 o (by simp [ho])⟩
  · simp [hpl, vcLoose, heapsOf]
    exact ⟨g3.symm, g4.symm⟩
def cNumsR : Ctr := N9 okR (fun r n => intsR n r) setC
theorem known_SNums : Known Tryz.prog 27 cNumsR := known_N9 (fun s cs offs h => closed_setC s cs offs h) fun s sz cs offs h0 h1 h2 h3 => det_snums s sz cs offs h1 h0 h2 h3
/-! ### lists of things -/
def listG {α : Type} (one : Rdr → Rdr × α) : Nat → Rdr → List α → Rdr × List α
  | 0, r, acc => (r, acc)
  | n + 1, r, acc => if r.E ≠ 0 then (r, acc) else listG one n (one r).1 (acc ++ [(one r).2])
def lstG {α : Type} (one : Rdr → Rdr × α) (r : Rdr) : Rdr × List α := listG one (manyV r 64 15).toNat (manyR r 64 15) []
theorem listG_stop {α : Type} {one : Rdr → Rdr × α} {r : Rdr} (h : r.E ≠ 0) (n : Nat) (acc : List α) : listG one n r acc = (r, acc) := by cases n <;> simp [listG, h]
theorem listG_succ {α : Type} {one : Rdr → Rdr × α} {r : Rdr} (h : r.E = 0) (n : Nat) (acc : List α) : listG one (n + 1) r acc = listG one n (one r).1 (acc ++ [(one r).2]) := by
  show (if r.E ≠ 0 then (r, acc) else listG one n (one r).1 (acc ++ [(one r).2])) = _
  rw [if_neg (by simpa using h)]
theorem listG_len {α : Type} (one : Rdr → Rdr × α) : ∀ (n : Nat) (r : Rdr) (acc : List α), (listG one n r acc).2.length ≤ acc.length + n
  | 0, r, acc => by simp [listG]
  | n + 1, r, acc => by
    unfold listG; split
    · simp
    · have := listG_len one n (one r).1 (acc ++ [(one r).2])
      simp at this; omega
theorem listG_mem {α : Type} (one : Rdr → Rdr × α) {p : α → Prop} (hp : ∀ r, p (one r).2) : ∀ (n : Nat) (r : Rdr) (acc : List α), (∀ x ∈ acc, p x) → ∀ x ∈ (listG one n r acc).2, p x
  | 0, r, acc, h => h
  | n + 1, r, acc, h => by
    unfold listG; split
    · exact h
    · refine listG_mem one hp n _ _ fun x hx => ?_
      rcases List.mem_append.1 hx with hx | hx
      · exact h x hx
      · rw [List.mem_singleton.1 hx]; exact hp r
theorem ok_listG {α : Type} {one : Rdr → Rdr × α} (ho : ∀ r, okR r → okR (one r).1) : ∀ (n : Nat) (r : Rdr) (acc : List α), okR r → okR (listG one n r acc).1
  | 0, r, acc, h => h
  | n + 1, r, acc, h => by
    unfold listG; split
    · exact h
    · exact ok_listG ho n _ _ (ho r h)
theorem lstG_len {α : Type} (one : Rdr → Rdr × α) (r : Rdr) : (lstG one r).2.length ≤ 64 := by
  have h1 := listG_len one (manyV r 64 15).toNat (manyR r 64 15) []
  have h2 := manyV_le r 64 15 (by omega)
  unfold lstG
  simp at h1; omega
theorem ok_lstG {α : Type} {one : Rdr → Rdr × α} (ho : ∀ r, okR r → okR (one r).1) {r : Rdr} (h : okR r) : okR (lstG one r).1 := ok_listG ho _ _ _ (ok_manyR h)
theorem lst_big {α : Type} (one : Rdr → Rdr × α) {r : Rdr} (h : 64 < intV r) {n : Nat} : lstG one r = listG one n ⟨[], 15⟩ [] := by
  rw [listG_stop (by simp)]
  unfold lstG manyR manyV
  rw [if_pos h, if_pos h]; rfl
theorem lst_few {α : Type} (one : Rdr → Rdr × α) {r : Rdr} (h : intV r ≤ 64) : lstG one r = listG one (intV r).toNat (intR r) [] := by
  unfold lstG manyR manyV
  rw [if_neg (by omega), if_neg (by omega)]
def oneI (r : Rdr) : Rdr × Int := (intR r, intV r)
theorem det_slist_int (r : Rdr) (h : okR r) : Det Tryz.prog 70 [.ptr 0 0 0, .fn 67 [.ptr 0 0 0] []] [.rows (Cel.n Rdr) [Cel.c r]] (en (lstG oneI r).2) [.rows (Cel.n Rdr) [Cel.c (lstG oneI r).1]] := by
  refine det_finM mixed0 (knows_cons known_SNum (knows_cons known_SFail knows_nil)) ok_snap_list_int 2 (by simp) ?_
  simp [ic_snap_list_int, rs_snap_list_int]
  refine BackC.genR (fun s : Nat × Rdr × List Int => ⟨[(0, .ptr 0 0 0), (1, .fn 67 [.ptr 0 0 0] []), (5, bs 1 (s.2.2.map Cel.c)), (6, .int .i64 s.1)], [.rows 2 [Cel.c s.2.1], bob 1 (s.2.2.map Cel.c)]⟩) (fun s => okR s.2.1 ∧ lstG oneI r = listG oneI s.1 s.2.1 s.2.2 ∧ (s.2.1.E = 0 → s.1 + s.2.2.length ≤ 64) ∧ s.1 ≤ 4294967295) (fun s => s.1) ?_ ?_
  · have hn := intV_nn r
    have hle := intV_le r
    simp [cInt, cFail, h, vcLoose, heapsOf]
    refine ⟨fun hh => ?_, fun hh => ?_⟩
    · rw [failR_int (by omega)]
      exact ⟨(intV r).toNat, ⟨[], 15⟩, [], ⟨[0, 1], by simp [atR, Int.toNat_of_nonneg hn]⟩, by simp [okR], lst_big _ hh, by simp, by omega⟩
    · exact ⟨(intV r).toNat, intR r, [], ⟨[0, 1], by simp [atR, Int.toNat_of_nonneg hn]⟩, ok_intR h, lst_few _ hh, fun _ => by simp; omega, by omega⟩
  · intro ⟨n, q, acc⟩ ⟨g1, g2, g3, g4⟩
    simp only at g1 g2 g3 g4
    simp [cInt, cFail, g1, vcLoose, heapsOf]
    refine ⟨fun h1 h2 => ?_, fun h1 => ?_⟩
    · have h3 := g3 h2
      obtain ⟨k, rfl⟩ : ∃ k, n = k + 1 := ⟨n - 1, by omega⟩
      refine ⟨by omega, by omega, k, intR q, acc ++ [intV q], ⟨[0, 2], by simp [atR]⟩, ⟨ok_intR g1, ?_, fun _ => by simp; omega, by omega⟩, by omega⟩
      rw [g2, listG_succ h2]; rfl
    · have e : listG oneI n q acc = (q, acc) := by
        by_cases h2 : 0 < n
        · exact listG_stop (h1 h2) _ _
        · obtain rfl : n = 0 := by omega
          rfl
      rw [g2, e]
      exact ⟨rfl, rfl⟩
def cListI : Ctr := L9 67 okR (fun r => (lstG oneI r).1) fun r => en (lstG oneI r).2
theorem known_SListI : Known Tryz.prog 70 cListI := known_L9 (fun r h => det_slist_int r h) fun r _ => closed_en _
end Go.Proofs.YtnckibgcjgeekaaGreat.Sx
/- Package snap: lists of things, Decode. No conditions: a kit of our own. -/
namespace Go.Proofs.YtnckibgcjgeekaaGreat.Sx
open Go Go.RowKit
set_option linter.unusedVariables false
set_option linter.unusedSimpArgs false

attribute [local irreducible] lstG intR intV wordR wordV manyR manyV specR specV handR handV aisR aisV pointR pointV
def oneT (r : Rdr) : Rdr × Tsk := ((lstG oneI (intsR 4 (specR r))).1, ⟨specV r, intV (specR r), intV (intsR 1 (specR r)), intV (intsR 2 (specR r)), intV (intsR 3 (specR r)), (lstG oneI (intsR 4 (specR r))).2⟩)
def oneL (r : Rdr) : Rdr × Lse := ((lstG oneI (intsR 6 r)).1, ⟨intV r, intV (intsR 1 r), intV (intsR 2 r), intV (intsR 3 r), intV (intsR 4 r) - 1, intV (intsR 5 r), (lstG oneI (intsR 6 r)).2⟩)
def oneK (r : Rdr) : Rdr × Lck := ((lstG oneI (intsR 2 r)).1, ⟨intV r, intV (intsR 1 r), (lstG oneI (intsR 2 r)).2⟩)
def oneA (r : Rdr) : Rdr × Ais := (aisR r, aisV r)
def oneH (r : Rdr) : Rdr × Hand := (handR r, handV r)
theorem ok_oneI (r : Rdr) (h : okR r) : okR (oneI r).1 := ok_intR h
theorem ok_oneT (r : Rdr) (h : okR r) : okR (oneT r).1 := ok_lstG ok_oneI (ok_intsR 4 (ok_specR h))
theorem ok_oneL (r : Rdr) (h : okR r) : okR (oneL r).1 := ok_lstG ok_oneI (ok_intsR 6 h)
theorem ok_oneK (r : Rdr) (h : okR r) : okR (oneK r).1 := ok_lstG ok_oneI (ok_intsR 2 h)
theorem ok_aisR {r : Rdr} (h : okR r) : okR (aisR r) := by unfold aisR pointR; exact ok_intR (ok_intR (ok_intR (ok_intR (ok_intR h))))
theorem ok_handR {r : Rdr} (h : okR r) : okR (handR r) := by
  unfold handR; split
  · simp [okR]
  · exact ok_intR (ok_wordR (ok_intR h))
theorem ok_oneA (r : Rdr) (h : okR r) : okR (oneA r).1 := ok_aisR h
theorem ok_oneH (r : Rdr) (h : okR r) : okR (oneH r).1 := ok_handR h
def cOneR {α : Type} [Cel α] (one : Rdr → Rdr × α) : Ctr := M0 okR (fun r => (one r).1) fun r => en (one r).2
theorem det_stask (r : Rdr) (h : okR r) : Det Tryz.prog 31 [.ptr 0 0 0] [.rows (Cel.n Rdr) [Cel.c r]] (en (oneT r).2) [.rows (Cel.n Rdr) [Cel.c (oneT r).1]] := by
  refine det_finM mixed0 (knows_cons known_SSpec (knows_cons known_SNums (knows_cons known_SListI knows_nil))) ok_snap_reader_task 3 (by simp) ?_
  have h1 := ok_specR h
  have h2 := ok_intsR 4 h1
  simp [ic_snap_reader_task, rs_snap_reader_task, cSpecR, cNumsR, cListI, h, h1, h2, setC, oneT, vcLoose, heapsOf]
  exact ⟨rfl, rfl, rfl⟩
theorem known_STask : Known Tryz.prog 31 (cOneR oneT) := known_M0 (fun r h => det_stask r h) fun r _ => closed_en _
theorem det_slease (r : Rdr) (h : okR r) : Det Tryz.prog 35 [.ptr 0 0 0] [.rows (Cel.n Rdr) [Cel.c r]] (en (oneL r).2) [.rows (Cel.n Rdr) [Cel.c (oneL r).1]] := by
  refine det_finM mixed0 (knows_cons known_SNums (knows_cons known_SListI knows_nil)) ok_snap_reader_lease 3 (by simp) ?_
  have h2 := ok_intsR 6 h
  simp [ic_snap_reader_lease, rs_snap_reader_lease, cNumsR, cListI, h, h2, setC, oneL, vcLoose, heapsOf]
  have k1 := intV_nn (intR (intR (intR (intR r))))
  have k2 := intV_le (intR (intR (intR (intR r))))
  exact ⟨by omega, rfl, rfl, rfl, rfl, rfl⟩
theorem known_SLease : Known Tryz.prog 35 (cOneR oneL) := known_M0 (fun r h => det_slease r h) fun r _ => closed_en _
theorem det_slock (r : Rdr) (h : okR r) : Det Tryz.prog 37 [.ptr 0 0 0] [.rows (Cel.n Rdr) [Cel.c r]] (en (oneK r).2) [.rows (Cel.n Rdr) [Cel.c (oneK r).1]] := by
  refine det_finM mixed0 (knows_cons known_SNums (knows_cons known_SListI knows_nil)) ok_snap_reader_lock 3 (by simp) ?_
  have h2 := ok_intsR 2 h
  simp [ic_snap_reader_lock, rs_snap_reader_lock, cNumsR, cListI, h, h2, setC, oneK, vcLoose, heapsOf]
  rfl
theorem known_SLock : Known Tryz.prog 37 (cOneR oneK) := known_M0 (fun r h => det_slock r h) fun r _ => closed_en _
theorem known_SAisle' : Known Tryz.prog 29 (cOneR oneA) := known_SAisle
theorem known_SHand' : Known Tryz.prog 33 (cOneR oneH) := known_SHand
def cListR {α : Type} [Cel α] (g : FuncId) (one : Rdr → Rdr × α) : Ctr := L9 g okR (fun r => (lstG one r).1) fun r => en (lstG one r).2
theorem det_slist_Aisle (r : Rdr) (h : okR r) : Det Tryz.prog 28 [.ptr 0 0 0, .fn 29 [.ptr 0 0 0] []] [.rows (Cel.n Rdr) [Cel.c r]] (en (lstG oneA r).2) [.rows (Cel.n Rdr) [Cel.c (lstG oneA r).1]] := by
  refine det_finM mixed0 (knows_cons known_SNum (knows_cons known_SFail (knows_cons known_SAisle' knows_nil))) ok_snap_list_api_Aisle 2 (by simp) ?_
  simp [ic_snap_list_api_Aisle, rs_snap_list_api_Aisle]
  refine BackC.genR (fun s : Nat × Rdr × List Ais => ⟨[(0, .ptr 0 0 0), (1, .fn 29 [.ptr 0 0 0] []), (5, bs 1 (s.2.2.map Cel.c)), (6, .int .i64 s.1)], [.rows 2 [Cel.c s.2.1], bob 5 (s.2.2.map Cel.c)]⟩) (fun s => okR s.2.1 ∧ lstG oneA r = listG oneA s.1 s.2.1 s.2.2 ∧ (s.2.1.E = 0 → s.1 + s.2.2.length ≤ 64) ∧ s.1 ≤ 4294967295) (fun s => s.1) ?_ ?_
  · have hn := intV_nn r
    have hle := intV_le r
    simp [cInt, cFail, cOneR, h, vcLoose, heapsOf]
    refine ⟨fun hh => ?_, fun hh => ?_⟩
    · rw [failR_int (by omega)]
      exact ⟨(intV r).toNat, ⟨[], 15⟩, [], ⟨[0, 1], by simp [atR, Int.toNat_of_nonneg hn]⟩, by simp [okR], lst_big _ hh, by simp, by omega⟩
    · exact ⟨(intV r).toNat, intR r, [], ⟨[0, 1], by simp [atR, Int.toNat_of_nonneg hn]⟩, ok_intR h, lst_few _ hh, fun _ => by simp; omega, by omega⟩
  · intro ⟨n, q, acc⟩ ⟨g1, g2, g3, g4⟩
    simp only at g1 g2 g3 g4
    simp [cInt, cFail, cOneR, g1, vcLoose, heapsOf]
    refine ⟨fun h1 h2 => ?_, fun h1 => ?_⟩
    · have h3 := g3 h2
      obtain ⟨k, rfl⟩ : ∃ k, n = k + 1 := ⟨n - 1, by omega⟩
      refine ⟨by omega, by omega, k, (oneA q).1, acc ++ [(oneA q).2], ⟨[0, 2], by simp [atR]⟩, ⟨ok_oneA q g1, ?_, fun _ => by simp; omega, by omega⟩, by omega⟩
      rw [g2, listG_succ h2]
    · have e : listG oneA n q acc = (q, acc) := by
        by_cases h2 : 0 < n
        · exact listG_stop (h1 h2) _ _
        · obtain rfl : n = 0 := by omega
          rfl
      rw [g2, e]
      exact ⟨rfl, rfl⟩
theorem known_SListAisle : Known Tryz.prog 28 (cListR 29 oneA) := known_L9 (fun r h => det_slist_Aisle r h) fun r _ => closed_en _
theorem det_slist_Task (r : Rdr) (h : okR r) : Det Tryz.prog 30 [.ptr 0 0 0, .fn 31 [.ptr 0 0 0] []] [.rows (Cel.n Rdr) [Cel.c r]] (en (lstG oneT r).2) [.rows (Cel.n Rdr) [Cel.c (lstG oneT r).1]] := by
  refine det_finM mixed0 (knows_cons known_SNum (knows_cons known_SFail (knows_cons known_STask knows_nil))) ok_snap_list_api_Task 2 (by simp) ?_
  simp [ic_snap_list_api_Task, rs_snap_list_api_Task]
  refine BackC.genR (fun s : Nat × Rdr × List Tsk => ⟨[(0, .ptr 0 0 0), (1, .fn 31 [.ptr 0 0 0] []), (5, bs 1 (s.2.2.map Cel.c)), (6, .int .i64 s.1)], [.rows 2 [Cel.c s.2.1], bob 14 (s.2.2.map Cel.c)]⟩) (fun s => okR s.2.1 ∧ lstG oneT r = listG oneT s.1 s.2.1 s.2.2 ∧ (s.2.1.E = 0 → s.1 + s.2.2.length ≤ 64) ∧ s.1 ≤ 4294967295) (fun s => s.1) ?_ ?_
  · have hn := intV_nn r
    have hle := intV_le r
    simp [cInt, cFail, cOneR, h, vcLoose, heapsOf]
    refine ⟨fun hh => ?_, fun hh => ?_⟩
    · rw [failR_int (by omega)]
      exact ⟨(intV r).toNat, ⟨[], 15⟩, [], ⟨[0, 1], by simp [atR, Int.toNat_of_nonneg hn]⟩, by simp [okR], lst_big _ hh, by simp, by omega⟩
    · exact ⟨(intV r).toNat, intR r, [], ⟨[0, 1], by simp [atR, Int.toNat_of_nonneg hn]⟩, ok_intR h, lst_few _ hh, fun _ => by simp; omega, by omega⟩
  · intro ⟨n, q, acc⟩ ⟨g1, g2, g3, g4⟩
    simp only at g1 g2 g3 g4
    simp [cInt, cFail, cOneR, g1, vcLoose, heapsOf]
    refine ⟨fun h1 h2 => ?_, fun h1 => ?_⟩
    · have h3 := g3 h2
      obtain ⟨k, rfl⟩ : ∃ k, n = k + 1 := ⟨n - 1, by omega⟩
      refine ⟨by omega, by omega, k, (oneT q).1, acc ++ [(oneT q).2], ⟨[0, 2], by simp [atR]⟩, ⟨ok_oneT q g1, ?_, fun _ => by simp; omega, by omega⟩, by omega⟩
      rw [g2, listG_succ h2]
    · have e : listG oneT n q acc = (q, acc) := by
        by_cases h2 : 0 < n
        · exact listG_stop (h1 h2) _ _
        · obtain rfl : n = 0 := by omega
          rfl
      rw [g2, e]
      exact ⟨rfl, rfl⟩
theorem known_SListTask : Known Tryz.prog 30 (cListR 31 oneT) := known_L9 (fun r h => det_slist_Task r h) fun r _ => closed_en _
theorem det_slist_Hand (r : Rdr) (h : okR r) : Det Tryz.prog 32 [.ptr 0 0 0, .fn 33 [.ptr 0 0 0] []] [.rows (Cel.n Rdr) [Cel.c r]] (en (lstG oneH r).2) [.rows (Cel.n Rdr) [Cel.c (lstG oneH r).1]] := by
  refine det_finM mixed0 (knows_cons known_SNum (knows_cons known_SFail (knows_cons known_SHand' knows_nil))) ok_snap_list_api_Hand 2 (by simp) ?_
  simp [ic_snap_list_api_Hand, rs_snap_list_api_Hand]
  refine BackC.genR (fun s : Nat × Rdr × List Hand => ⟨[(0, .ptr 0 0 0), (1, .fn 33 [.ptr 0 0 0] []), (5, bs 1 (s.2.2.map Cel.c)), (6, .int .i64 s.1)], [.rows 2 [Cel.c s.2.1], bob 3 (s.2.2.map Cel.c)]⟩) (fun s => okR s.2.1 ∧ lstG oneH r = listG oneH s.1 s.2.1 s.2.2 ∧ (s.2.1.E = 0 → s.1 + s.2.2.length ≤ 64) ∧ s.1 ≤ 4294967295) (fun s => s.1) ?_ ?_
  · have hn := intV_nn r
    have hle := intV_le r
    simp [cInt, cFail, cOneR, h, vcLoose, heapsOf]
    refine ⟨fun hh => ?_, fun hh => ?_⟩
    · rw [failR_int (by omega)]
      exact ⟨(intV r).toNat, ⟨[], 15⟩, [], ⟨[0, 1], by simp [atR, Int.toNat_of_nonneg hn]⟩, by simp [okR], lst_big _ hh, by simp, by omega⟩
    · exact ⟨(intV r).toNat, intR r, [], ⟨[0, 1], by simp [atR, Int.toNat_of_nonneg hn]⟩, ok_intR h, lst_few _ hh, fun _ => by simp; omega, by omega⟩
  · intro ⟨n, q, acc⟩ ⟨g1, g2, g3, g4⟩
    simp only at g1 g2 g3 g4
    simp [cInt, cFail, cOneR, g1, vcLoose, heapsOf]
    refine ⟨fun h1 h2 => ?_, fun h1 => ?_⟩
    · have h3 := g3 h2
      obtain ⟨k, rfl⟩ : ∃ k, n = k + 1 := ⟨n - 1, by omega⟩
      refine ⟨by omega, by omega, k, (oneH q).1, acc ++ [(oneH q).2], ⟨[0, 2], by simp [atR]⟩, ⟨ok_oneH q g1, ?_, fun _ => by simp; omega, by omega⟩, by omega⟩
      rw [g2, listG_succ h2]
    · have e : listG oneH n q acc = (q, acc) := by
        by_cases h2 : 0 < n
        · exact listG_stop (h1 h2) _ _
        · obtain rfl : n = 0 := by omega
          rfl
      rw [g2, e]
      exact ⟨rfl, rfl⟩
theorem known_SListHand : Known Tryz.prog 32 (cListR 33 oneH) := known_L9 (fun r h => det_slist_Hand r h) fun r _ => closed_en _
theorem det_slist_Lease (r : Rdr) (h : okR r) : Det Tryz.prog 34 [.ptr 0 0 0, .fn 35 [.ptr 0 0 0] []] [.rows (Cel.n Rdr) [Cel.c r]] (en (lstG oneL r).2) [.rows (Cel.n Rdr) [Cel.c (lstG oneL r).1]] := by
  refine det_finM mixed0 (knows_cons known_SNum (knows_cons known_SFail (knows_cons known_SLease knows_nil))) ok_snap_list_api_Lease 2 (by simp) ?_
  simp [ic_snap_list_api_Lease, rs_snap_list_api_Lease]
  refine BackC.genR (fun s : Nat × Rdr × List Lse => ⟨[(0, .ptr 0 0 0), (1, .fn 35 [.ptr 0 0 0] []), (5, bs 1 (s.2.2.map Cel.c)), (6, .int .i64 s.1)], [.rows 2 [Cel.c s.2.1], bob 7 (s.2.2.map Cel.c)]⟩) (fun s => okR s.2.1 ∧ lstG oneL r = listG oneL s.1 s.2.1 s.2.2 ∧ (s.2.1.E = 0 → s.1 + s.2.2.length ≤ 64) ∧ s.1 ≤ 4294967295) (fun s => s.1) ?_ ?_
  · have hn := intV_nn r
    have hle := intV_le r
    simp [cInt, cFail, cOneR, h, vcLoose, heapsOf]
    refine ⟨fun hh => ?_, fun hh => ?_⟩
    · rw [failR_int (by omega)]
      exact ⟨(intV r).toNat, ⟨[], 15⟩, [], ⟨[0, 1], by simp [atR, Int.toNat_of_nonneg hn]⟩, by simp [okR], lst_big _ hh, by simp, by omega⟩
    · exact ⟨(intV r).toNat, intR r, [], ⟨[0, 1], by simp [atR, Int.toNat_of_nonneg hn]⟩, ok_intR h, lst_few _ hh, fun _ => by simp; omega, by omega⟩
  · intro ⟨n, q, acc⟩ ⟨g1, g2, g3, g4⟩
    simp only at g1 g2 g3 g4
    simp [cInt, cFail, cOneR, g1, vcLoose, heapsOf]
    refine ⟨fun h1 h2 => ?_, fun h1 => ?_⟩
    · have h3 := g3 h2
      obtain ⟨k, rfl⟩ : ∃ k, n = k + 1 := ⟨n - 1, by omega⟩
      refine ⟨by omega, by omega, k, (oneL q).1, acc ++ [(oneL q).2], ⟨[0, 2], by simp [atR]⟩, ⟨ok_oneL q g1, ?_, fun _ => by simp; omega, by omega⟩, by omega⟩
      rw [g2, listG_succ h2]
    · have e : listG oneL n q acc = (q, acc) := by
        by_cases h2 : 0 < n
        · exact listG_stop (h1 h2) _ _
        · obtain rfl : n = 0 := by omega
          rfl
      rw [g2, e]
      exact ⟨rfl, rfl⟩
theorem known_SListLease : Known Tryz.prog 34 (cListR 35 oneL) := known_L9 (fun r h => det_slist_Lease r h) fun r _ => closed_en _
theorem det_slist_Lock (r : Rdr) (h : okR r) : Det Tryz.prog 36 [.ptr 0 0 0, .fn 37 [.ptr 0 0 0] []] [.rows (Cel.n Rdr) [Cel.c r]] (en (lstG oneK r).2) [.rows (Cel.n Rdr) [Cel.c (lstG oneK r).1]] := by
  refine det_finM mixed0 (knows_cons known_SNum (knows_cons known_SFail (knows_cons known_SLock knows_nil))) ok_snap_list_api_Lock 2 (by simp) ?_
  simp [ic_snap_list_api_Lock, rs_snap_list_api_Lock]
  refine BackC.genR (fun s : Nat × Rdr × List Lck => ⟨[(0, .ptr 0 0 0), (1, .fn 37 [.ptr 0 0 0] []), (5, bs 1 (s.2.2.map Cel.c)), (6, .int .i64 s.1)], [.rows 2 [Cel.c s.2.1], bob 3 (s.2.2.map Cel.c)]⟩) (fun s => okR s.2.1 ∧ lstG oneK r = listG oneK s.1 s.2.1 s.2.2 ∧ (s.2.1.E = 0 → s.1 + s.2.2.length ≤ 64) ∧ s.1 ≤ 4294967295) (fun s => s.1) ?_ ?_
  · have hn := intV_nn r
    have hle := intV_le r
    simp [cInt, cFail, cOneR, h, vcLoose, heapsOf]
    refine ⟨fun hh => ?_, fun hh => ?_⟩
    · rw [failR_int (by omega)]
      exact ⟨(intV r).toNat, ⟨[], 15⟩, [], ⟨[0, 1], by simp [atR, Int.toNat_of_nonneg hn]⟩, by simp [okR], lst_big _ hh, by simp, by omega⟩
    · exact ⟨(intV r).toNat, intR r, [], ⟨[0, 1], by simp [atR, Int.toNat_of_nonneg hn]⟩, ok_intR h, lst_few _ hh, fun _ => by simp; omega, by omega⟩
  · intro ⟨n, q, acc⟩ ⟨g1, g2, g3, g4⟩
    simp only at g1 g2 g3 g4
    simp [cInt, cFail, cOneR, g1, vcLoose, heapsOf]
    refine ⟨fun h1 h2 => ?_, fun h1 => ?_⟩
    · have h3 := g3 h2
      obtain ⟨k, rfl⟩ : ∃ k, n = k + 1 := ⟨n - 1, by omega⟩
      refine ⟨by omega, by omega, k, (oneK q).1, acc ++ [(oneK q).2], ⟨[0, 2], by simp [atR]⟩, ⟨ok_oneK q g1, ?_, fun _ => by simp; omega, by omega⟩, by omega⟩
      rw [g2, listG_succ h2]
    · have e : listG oneK n q acc = (q, acc) := by
        by_cases h2 : 0 < n
        · exact listG_stop (h1 h2) _ _
        · obtain rfl : n = 0 := by omega
          rfl
      rw [g2, e]
      exact ⟨rfl, rfl⟩
theorem known_SListLock : Known Tryz.prog 36 (cListR 37 oneK) := known_L9 (fun r h => det_slist_Lock r h) fun r _ => closed_en _
end Go.Proofs.YtnckibgcjgeekaaGreat.Sx
/- Reference 32: lists of things, Decode. No conditions: a kit of our own. -/
namespace Go.Proofs.YtnckibgcjgeekaaGreat.Sx
open Go Go.RowKit
set_option linter.unusedVariables false
set_option linter.unusedSimpArgs false

attribute [local irreducible] lstG intR intV wordR wordV manyR manyV specR specV pointR pointV
theorem det_r32_many (r : Rdr) (h : okR r) : Det Tryz.prog 73 [en r] [] (.tup [en (manyR r 64 15), en (manyV r 64 15)]) [] := by
  refine det_finF mixed0 (knows_cons known_Int29 knows_nil) ok_r32_many 3 (by simp) ?_
  have e1 : manyR r 64 15 = if 64 < intV r then ⟨[], 15⟩ else intR r := by unfold manyR; rfl
  have e2 : manyV r 64 15 = if 64 < intV r then 0 else intV r := by unfold manyV; rfl
  have e3 : (intR r).E ≠ 0 → intV r = 0 := intV_E
  rw [e1, e2]
  by_cases hE : (intR r).E = 0 <;> by_cases hb : 64 < intV r <;> simp [ic_r32_many, rs_r32_many, cInt29, h, hE, hb]
  · have := e3 hE
    omega
def cMany32 : Ctr := V1 okR fun r => .tup [en (manyR r 64 15), en (manyV r 64 15)]
theorem known_r32_many : Known Tryz.prog 73 cMany32 := known_V1 (fun r h => det_r32_many r h) fun r _ => closed_pair _ _
def cLst32 {α : Type} [Cel α] (one : Rdr → Rdr × α) : Ctr := V1 okR fun r => .tup [en (lstG one r).1, en (lstG one r).2]
/-- Nothing, instead of a cell. -/
def zc : Nat → AV → AV
  | 0, a => a
  | _ + 1, _ => .nils
@[simp] theorem zc_0 (a : AV) : zc 0 a = a := rfl
@[simp] theorem zc_1 (a : AV) : zc 1 a = .nils := rfl
theorem lst_def {α : Type} (one : Rdr → Rdr × α) (r : Rdr) : lstG one r = listG one (manyV r 64 15).toNat (manyR r 64 15) [] := by unfold lstG; rfl
theorem det_r32_ints (r : Rdr) (h : okR r) : Det Tryz.prog 76 [en r] [] (.tup [en (lstG oneI r).1, en (lstG oneI r).2]) [] := by
  refine det_finF mixed0 (knows_cons known_r32_many (knows_cons known_Int29 knows_nil)) ok_r32_ints 3 (by simp) ?_
  have hn := manyV_nn r 64 15
  have hle := manyV_le r 64 15 (by omega)
  have hk := ok_manyR (m := 64) (e := 15) h
  have e0 := lst_def oneI r
  simp [ic_r32_ints, rs_r32_ints, cMany32, h]
  generalize manyR r 64 15 = R0 at *
  obtain ⟨N, hN⟩ : ∃ N : Nat, manyV r 64 15 = N := ⟨(manyV r 64 15).toNat, by omega⟩
  rw [hN] at e0 hle ⊢
  simp only [Int.toNat_natCast] at e0
  refine LoopC.genR (fun s : Nat × Rdr × List Int => ⟨[(2, .ptr 0 0 0), (4, bs 2 (s.2.2.map Cel.c)), (5, .ptr 1 0 0), (6, .int .i64 N), (7, .int .i64 s.1)], [.rows 2 [[.nils, .int .i64 0]], .rows 2 [Cel.c s.2.1], bob 1 (s.2.2.map Cel.c)]⟩) (fun s => (okR s.2.1 ∧ s.1 ≤ N ∧ s.2.2.length = s.1) ∧ lstG oneI r = listG oneI (N - s.1) s.2.1 s.2.2) (fun s => N - s.1) (0, R0, []) [1, 2, 3] (by simp [atR]) ⟨⟨hk, by omega, rfl⟩, e0⟩ fun ⟨i, q, acc⟩ ⟨⟨g1, g2, g3⟩, g4⟩ => ?_
  simp only at g1 g2 g3 g4
  by_cases hs : i < N ∧ q.E = 0
  · obtain ⟨h1, h2⟩ := hs
    obtain ⟨k, hk⟩ : ∃ k, N - i = k + 1 := ⟨N - i - 1, by omega⟩
    have hN2 : N - (i + 1) = k := by omega
    rw [hk, listG_succ h2] at g4
    obtain ⟨B, E⟩ := q
    simp only at h2
    subst h2
    simp [h1, g1, cInt29, vcLoose, heapsOf]
    exact ⟨by omega, by omega, i + 1, intR ⟨B, 0⟩, acc ++ [intV ⟨B, 0⟩], ⟨[0, 1, 3], by simp [atR]⟩, ⟨⟨ok_intR g1, by omega, by simp [g3]⟩, by rw [g4, hN2]; rfl⟩, by omega⟩
  · have e : listG oneI (N - i) q acc = (q, acc) := by
      by_cases h2 : i < N
      · exact listG_stop (fun h => hs ⟨h2, h⟩) _ _
      · have : N - i = 0 := by omega
        rw [this]; rfl
    rw [e] at g4
    rw [g4]
    by_cases h1 : i < N
    · have h2 : ¬ q.E = 0 := fun h => hs ⟨h1, h⟩
      simp [h1, h2, vcLoose, heapsOf]
    · simp [h1, vcLoose, heapsOf]
theorem known_r32_ints : Known Tryz.prog 76 (cLst32 oneI) := known_V1 (fun r h => det_r32_ints r h) fun r _ => closed_pair _ _
theorem det_r32_handful (r : Rdr) (h : okR r) : Det Tryz.prog 42 [en r] [] (.tup [en (lstG oneH r).1, en (lstG oneH r).2]) [] := by
  refine det_finF mixed0 (knows_cons known_r32_many (knows_cons known_Int29 (knows_cons known_Word29 knows_nil))) ok_r32_handful 3 (by simp) ?_
  have hn := manyV_nn r 64 15
  have hle := manyV_le r 64 15 (by omega)
  have hk := ok_manyR (m := 64) (e := 15) h
  have e0 := lst_def oneH r
  simp [ic_r32_handful, rs_r32_handful, cMany32, h]
  generalize manyR r 64 15 = R0 at *
  obtain ⟨N, hN⟩ : ∃ N : Nat, manyV r 64 15 = N := ⟨(manyV r 64 15).toNat, by omega⟩
  rw [hN] at e0 hle ⊢
  simp only [Int.toNat_natCast] at e0
  refine LoopC.genR (fun s : Nat × Rdr × List Hand × Nat => ⟨[(2, .ptr 0 0 0), (4, bs 2 (s.2.2.1.map Cel.c)), (5, .ptr 1 0 0), (6, .int .i64 N), (7, .int .i64 s.1)], [.rows 2 [[.nils, .int .i64 0]], .rows 2 [[zc s.2.2.2 (.view (s.2.1.B.map Cel.c)), .int .i64 s.2.1.E]], bob 3 (s.2.2.1.map Cel.c)]⟩) (fun s => (okR s.2.1 ∧ s.1 ≤ N ∧ s.2.2.1.length = s.1 ∧ (s.2.2.2 ≤ 1 ∧ (s.2.2.2 = 1 → s.2.1 = ⟨[], 3⟩))) ∧ lstG oneH r = listG oneH (N - s.1) s.2.1 s.2.2.1) (fun s => N - s.1) (0, R0, [], 0) [1, 2, 3] (by simp [atR]) ⟨⟨hk, by omega, rfl, by simp⟩, e0⟩ fun ⟨i, q, acc, z⟩ ⟨⟨g1, g2, g3, g5⟩, g4⟩ => ?_
  simp only at g1 g2 g3 g4 g5
  by_cases hs : i < N ∧ q.E = 0
  · obtain ⟨h1, h2⟩ := hs
    obtain ⟨k, hk⟩ : ∃ k, N - i = k + 1 := ⟨N - i - 1, by omega⟩
    have hN2 : N - (i + 1) = k := by omega
    rw [hk, listG_succ h2] at g4
    obtain ⟨B, E⟩ := q
    simp only at h2
    subst h2
    obtain rfl : z = 0 := by
      by_cases hz : z = 1
      · have := g5.2 hz; simp at this
      · omega
    have k1 := ok_intR g1
    have k2 := ok_wordR k1
    have k3 := ok_intR k2
    by_cases hb : 1 < intV (wordR (intR ⟨B, 0⟩))
    · have hE : (intR (wordR (intR ⟨B, 0⟩))).E = 0 := by
        by_cases hE : (intR (wordR (intR ⟨B, 0⟩))).E = 0
        · exact hE
        · have := intV_E hE
          omega
      have eH : handR ⟨B, 0⟩ = ⟨[], 3⟩ := by unfold handR; rw [if_pos hb]
      simp [h1, g1, k1, k2, k3, hE, hb, cInt29, cWord29, vcLoose, heapsOf]
      refine ⟨by omega, by omega, i + 1, (oneH ⟨B, 0⟩).1, acc ++ [(oneH ⟨B, 0⟩).2], 1, ⟨[0, 1, 4], by simp [atR, eH, oneH, intsR, aisR, aisV, handV]⟩, ⟨⟨ok_oneH _ g1, by omega, by simp [g3], by omega, fun _ => eH⟩, by rw [g4, hN2]⟩, by omega⟩
    · have eH : handR ⟨B, 0⟩ = intR (wordR (intR ⟨B, 0⟩)) := by unfold handR; rw [if_neg hb]
      simp [h1, g1, k1, k2, k3, hb, cInt29, cWord29, vcLoose, heapsOf]
      refine ⟨by omega, by omega, i + 1, (oneH ⟨B, 0⟩).1, acc ++ [(oneH ⟨B, 0⟩).2], 0, ⟨[0, 1, 4], by simp [atR, eH, oneH, intsR, aisR, aisV, handV]⟩, ⟨⟨ok_oneH _ g1, by omega, by simp [g3], by omega, by simp⟩, by rw [g4, hN2]⟩, by omega⟩
  · have e : listG oneH (N - i) q acc = (q, acc) := by
      by_cases h2 : i < N
      · exact listG_stop (fun h => hs ⟨h2, h⟩) _ _
      · have : N - i = 0 := by omega
        rw [this]; rfl
    rw [e] at g4
    rw [g4]
    obtain rfl | rfl : z = 0 ∨ z = 1 := by omega
    · by_cases h1 : i < N
      · have h2 : ¬ q.E = 0 := fun h => hs ⟨h1, h⟩
        simp [h1, h2, vcLoose, heapsOf]
      · simp [h1, vcLoose, heapsOf]
    · have hq := g5.2 rfl
      subst hq
      by_cases h1 : i < N <;> simp [h1, vcLoose, heapsOf]
theorem known_r32_handful : Known Tryz.prog 42 (cLst32 oneH) := known_V1 (fun r h => det_r32_handful r h) fun r _ => closed_pair _ _
theorem det_r32_tasks (r : Rdr) (h : okR r) : Det Tryz.prog 41 [en r] [] (.tup [en (lstG oneT r).1, en (lstG oneT r).2]) [] := by
  refine det_finF mixed0 (knows_cons known_r32_many (knows_cons known_Int29 (knows_cons known_Spec29 (knows_cons known_r32_ints knows_nil)))) ok_r32_tasks 3 (by simp) ?_
  have hn := manyV_nn r 64 15
  have hle := manyV_le r 64 15 (by omega)
  have hk := ok_manyR (m := 64) (e := 15) h
  have e0 := lst_def oneT r
  simp [ic_r32_tasks, rs_r32_tasks, cMany32, h]
  generalize manyR r 64 15 = R0 at *
  obtain ⟨N, hN⟩ : ∃ N : Nat, manyV r 64 15 = N := ⟨(manyV r 64 15).toNat, by omega⟩
  rw [hN] at e0 hle ⊢
  simp only [Int.toNat_natCast] at e0
  refine LoopC.genR (fun s : Nat × Rdr × List Tsk => ⟨[(2, .ptr 0 0 0), (4, bs 2 (s.2.2.map Cel.c)), (5, .ptr 1 0 0), (6, .int .i64 N), (7, .int .i64 s.1)], [.rows 2 [[.nils, .int .i64 0]], .rows 2 [Cel.c s.2.1], bob 14 (s.2.2.map Cel.c)]⟩) (fun s => (okR s.2.1 ∧ s.1 ≤ N ∧ s.2.2.length = s.1) ∧ lstG oneT r = listG oneT (N - s.1) s.2.1 s.2.2) (fun s => N - s.1) (0, R0, []) [1, 2, 3] (by simp [atR]) ⟨⟨hk, by omega, rfl⟩, e0⟩ fun ⟨i, q, acc⟩ ⟨⟨g1, g2, g3⟩, g4⟩ => ?_
  simp only at g1 g2 g3 g4
  by_cases hs : i < N ∧ q.E = 0
  · obtain ⟨h1, h2⟩ := hs
    obtain ⟨k, hk⟩ : ∃ k, N - i = k + 1 := ⟨N - i - 1, by omega⟩
    have hN2 : N - (i + 1) = k := by omega
    rw [hk, listG_succ h2] at g4
    obtain ⟨B, E⟩ := q
    simp only at h2
    subst h2
    have k1 := ok_specR g1
    have k2 := ok_intR k1
    have k3 := ok_intR k2
    have k4 := ok_intR k3
    have k5 := ok_intR k4
    simp [h1, g1, k1, k2, k3, k4, k5, cInt29, cSpec29, cLst32, vcLoose, heapsOf]
    refine ⟨by omega, by omega, i + 1, (oneT ⟨B, 0⟩).1, acc ++ [(oneT ⟨B, 0⟩).2], ⟨[0, 1, 4], by simp [atR, oneT, intsR, aisR, aisV, handV]⟩, ⟨⟨ok_oneT _ g1, by omega, by simp [g3]⟩, by rw [g4, hN2]⟩, by omega⟩
  · have e : listG oneT (N - i) q acc = (q, acc) := by
      by_cases h2 : i < N
      · exact listG_stop (fun h => hs ⟨h2, h⟩) _ _
      · have : N - i = 0 := by omega
        rw [this]; rfl
    rw [e] at g4
    rw [g4]
    by_cases h1 : i < N
    · have h2 : ¬ q.E = 0 := fun h => hs ⟨h1, h⟩
      simp [h1, h2, vcLoose, heapsOf]
    · simp [h1, vcLoose, heapsOf]
theorem known_r32_tasks : Known Tryz.prog 41 (cLst32 oneT) := known_V1 (fun r h => det_r32_tasks r h) fun r _ => closed_pair _ _
theorem det_r32_leases (r : Rdr) (h : okR r) : Det Tryz.prog 43 [en r] [] (.tup [en (lstG oneL r).1, en (lstG oneL r).2]) [] := by
  refine det_finF mixed0 (knows_cons known_r32_many (knows_cons known_Int29 (knows_cons known_r32_ints knows_nil))) ok_r32_leases 3 (by simp) ?_
  have hn := manyV_nn r 64 15
  have hle := manyV_le r 64 15 (by omega)
  have hk := ok_manyR (m := 64) (e := 15) h
  have e0 := lst_def oneL r
  simp [ic_r32_leases, rs_r32_leases, cMany32, h]
  generalize manyR r 64 15 = R0 at *
  obtain ⟨N, hN⟩ : ∃ N : Nat, manyV r 64 15 = N := ⟨(manyV r 64 15).toNat, by omega⟩
  rw [hN] at e0 hle ⊢
  simp only [Int.toNat_natCast] at e0
  refine LoopC.genR (fun s : Nat × Rdr × List Lse => ⟨[(2, .ptr 0 0 0), (4, bs 2 (s.2.2.map Cel.c)), (5, .ptr 1 0 0), (6, .int .i64 N), (7, .int .i64 s.1)], [.rows 2 [[.nils, .int .i64 0]], .rows 2 [Cel.c s.2.1], bob 7 (s.2.2.map Cel.c)]⟩) (fun s => (okR s.2.1 ∧ s.1 ≤ N ∧ s.2.2.length = s.1) ∧ lstG oneL r = listG oneL (N - s.1) s.2.1 s.2.2) (fun s => N - s.1) (0, R0, []) [1, 2, 3] (by simp [atR]) ⟨⟨hk, by omega, rfl⟩, e0⟩ fun ⟨i, q, acc⟩ ⟨⟨g1, g2, g3⟩, g4⟩ => ?_
  simp only at g1 g2 g3 g4
  by_cases hs : i < N ∧ q.E = 0
  · obtain ⟨h1, h2⟩ := hs
    obtain ⟨k, hk⟩ : ∃ k, N - i = k + 1 := ⟨N - i - 1, by omega⟩
    have hN2 : N - (i + 1) = k := by omega
    rw [hk, listG_succ h2] at g4
    obtain ⟨B, E⟩ := q
    simp only at h2
    subst h2
    have k1 := ok_intR g1
    have k2 := ok_intR k1
    have k3 := ok_intR k2
    have k4 := ok_intR k3
    have k5 := ok_intR k4
    have k6 := ok_intR k5
    have b1 := intV_nn (intR (intR (intR (intR ⟨B, 0⟩))))
    have b2 := intV_le (intR (intR (intR (intR ⟨B, 0⟩))))
    simp [h1, g1, k1, k2, k3, k4, k5, k6, cInt29, cLst32, vcLoose, heapsOf]
    refine ⟨by omega, by omega, by omega, i + 1, (oneL ⟨B, 0⟩).1, acc ++ [(oneL ⟨B, 0⟩).2], ⟨[0, 1, 4], by simp [atR, oneL, intsR, aisR, aisV, handV]⟩, ⟨⟨ok_oneL _ g1, by omega, by simp [g3]⟩, by rw [g4, hN2]⟩, by omega⟩
  · have e : listG oneL (N - i) q acc = (q, acc) := by
      by_cases h2 : i < N
      · exact listG_stop (fun h => hs ⟨h2, h⟩) _ _
      · have : N - i = 0 := by omega
        rw [this]; rfl
    rw [e] at g4
    rw [g4]
    by_cases h1 : i < N
    · have h2 : ¬ q.E = 0 := fun h => hs ⟨h1, h⟩
      simp [h1, h2, vcLoose, heapsOf]
    · simp [h1, vcLoose, heapsOf]
theorem known_r32_leases : Known Tryz.prog 43 (cLst32 oneL) := known_V1 (fun r h => det_r32_leases r h) fun r _ => closed_pair _ _
theorem det_r32_locks (r : Rdr) (h : okR r) : Det Tryz.prog 44 [en r] [] (.tup [en (lstG oneK r).1, en (lstG oneK r).2]) [] := by
  refine det_finF mixed0 (knows_cons known_r32_many (knows_cons known_Int29 (knows_cons known_r32_ints knows_nil))) ok_r32_locks 3 (by simp) ?_
  have hn := manyV_nn r 64 15
  have hle := manyV_le r 64 15 (by omega)
  have hk := ok_manyR (m := 64) (e := 15) h
  have e0 := lst_def oneK r
  simp [ic_r32_locks, rs_r32_locks, cMany32, h]
  generalize manyR r 64 15 = R0 at *
  obtain ⟨N, hN⟩ : ∃ N : Nat, manyV r 64 15 = N := ⟨(manyV r 64 15).toNat, by omega⟩
  rw [hN] at e0 hle ⊢
  simp only [Int.toNat_natCast] at e0
  refine LoopC.genR (fun s : Nat × Rdr × List Lck => ⟨[(2, .ptr 0 0 0), (4, bs 2 (s.2.2.map Cel.c)), (5, .ptr 1 0 0), (6, .int .i64 N), (7, .int .i64 s.1)], [.rows 2 [[.nils, .int .i64 0]], .rows 2 [Cel.c s.2.1], bob 3 (s.2.2.map Cel.c)]⟩) (fun s => (okR s.2.1 ∧ s.1 ≤ N ∧ s.2.2.length = s.1) ∧ lstG oneK r = listG oneK (N - s.1) s.2.1 s.2.2) (fun s => N - s.1) (0, R0, []) [1, 2, 3] (by simp [atR]) ⟨⟨hk, by omega, rfl⟩, e0⟩ fun ⟨i, q, acc⟩ ⟨⟨g1, g2, g3⟩, g4⟩ => ?_
  simp only at g1 g2 g3 g4
  by_cases hs : i < N ∧ q.E = 0
  · obtain ⟨h1, h2⟩ := hs
    obtain ⟨k, hk⟩ : ∃ k, N - i = k + 1 := ⟨N - i - 1, by omega⟩
    have hN2 : N - (i + 1) = k := by omega
    rw [hk, listG_succ h2] at g4
    obtain ⟨B, E⟩ := q
    simp only at h2
    subst h2
    have k1 := ok_intR g1
    have k2 := ok_intR k1
    simp [h1, g1, k1, k2, cInt29, cLst32, vcLoose, heapsOf]
    refine ⟨by omega, by omega, i + 1, (oneK ⟨B, 0⟩).1, acc ++ [(oneK ⟨B, 0⟩).2], ⟨[0, 1, 4], by simp [atR, oneK, intsR, aisR, aisV, handV]⟩, ⟨⟨ok_oneK _ g1, by omega, by simp [g3]⟩, by rw [g4, hN2]⟩, by omega⟩
  · have e : listG oneK (N - i) q acc = (q, acc) := by
      by_cases h2 : i < N
      · exact listG_stop (fun h => hs ⟨h2, h⟩) _ _
      · have : N - i = 0 := by omega
        rw [this]; rfl
    rw [e] at g4
    rw [g4]
    by_cases h1 : i < N
    · have h2 : ¬ q.E = 0 := fun h => hs ⟨h1, h⟩
      simp [h1, h2, vcLoose, heapsOf]
    · simp [h1, vcLoose, heapsOf]
theorem known_r32_locks : Known Tryz.prog 44 (cLst32 oneK) := known_V1 (fun r h => det_r32_locks r h) fun r _ => closed_pair _ _
theorem det_r32_aisles (r : Rdr) (h : okR r) : Det Tryz.prog 40 [en r] [] (.tup [en (lstG oneA r).1, en (lstG oneA r).2]) [] := by
  refine det_finF mixed0 (knows_cons known_r32_many (knows_cons known_Int29 (knows_cons known_Point29 knows_nil))) ok_r32_aisles 3 (by simp) ?_
  have hn := manyV_nn r 64 15
  have hle := manyV_le r 64 15 (by omega)
  have hk := ok_manyR (m := 64) (e := 15) h
  have e0 := lst_def oneA r
  simp [ic_r32_aisles, rs_r32_aisles, cMany32, h]
  generalize manyR r 64 15 = R0 at *
  obtain ⟨N, hN⟩ : ∃ N : Nat, manyV r 64 15 = N := ⟨(manyV r 64 15).toNat, by omega⟩
  rw [hN] at e0 hle ⊢
  simp only [Int.toNat_natCast] at e0
  refine LoopC.genR (fun s : Nat × Rdr × List Ais => ⟨[(2, .ptr 0 0 0), (4, bs 2 (s.2.2.map Cel.c)), (5, .ptr 1 0 0), (6, .int .i64 N), (7, .int .i64 s.1)], [.rows 2 [[.nils, .int .i64 0]], .rows 2 [Cel.c s.2.1], bob 5 (s.2.2.map Cel.c)]⟩) (fun s => (okR s.2.1 ∧ s.1 ≤ N ∧ s.2.2.length = s.1) ∧ lstG oneA r = listG oneA (N - s.1) s.2.1 s.2.2) (fun s => N - s.1) (0, R0, []) [1, 2, 3] (by simp [atR]) ⟨⟨hk, by omega, rfl⟩, e0⟩ fun ⟨i, q, acc⟩ ⟨⟨g1, g2, g3⟩, g4⟩ => ?_
  simp only at g1 g2 g3 g4
  by_cases hs : i < N ∧ q.E = 0
  · obtain ⟨h1, h2⟩ := hs
    obtain ⟨k, hk⟩ : ∃ k, N - i = k + 1 := ⟨N - i - 1, by omega⟩
    have hN2 : N - (i + 1) = k := by omega
    rw [hk, listG_succ h2] at g4
    obtain ⟨B, E⟩ := q
    simp only at h2
    subst h2
    have k1 := ok_intR g1
    have k2 : okR (pointR (intR ⟨B, 0⟩)) := by unfold pointR; exact ok_intR (ok_intR k1)
    simp [h1, g1, k1, k2, cInt29, cPoint29, vcLoose, heapsOf]
    refine ⟨by omega, by omega, i + 1, (oneA ⟨B, 0⟩).1, acc ++ [(oneA ⟨B, 0⟩).2], ⟨[0, 1, 4], by simp [atR, oneA, intsR, aisR, aisV, handV]⟩, ⟨⟨ok_oneA _ g1, by omega, by simp [g3]⟩, by rw [g4, hN2]⟩, by omega⟩
  · have e : listG oneA (N - i) q acc = (q, acc) := by
      by_cases h2 : i < N
      · exact listG_stop (fun h => hs ⟨h2, h⟩) _ _
      · have : N - i = 0 := by omega
        rw [this]; rfl
    rw [e] at g4
    rw [g4]
    by_cases h1 : i < N
    · have h2 : ¬ q.E = 0 := fun h => hs ⟨h1, h⟩
      simp [h1, h2, vcLoose, heapsOf]
    · simp [h1, vcLoose, heapsOf]
theorem known_r32_aisles : Known Tryz.prog 40 (cLst32 oneA) := known_V1 (fun r h => det_r32_aisles r h) fun r _ => closed_pair _ _
end Go.Proofs.YtnckibgcjgeekaaGreat.Sx
/- Package snap, reference 32: Decode. No conditions: a kit of our own. -/
namespace Go.Proofs.YtnckibgcjgeekaaGreat.Sx
open Go Go.RowKit
set_option linter.unusedVariables false
set_option linter.unusedSimpArgs false

attribute [local irreducible] lstG intR intV wordR wordV manyR manyV specR specV pointR pointV shpErr
def q1 (b : List (BitVec 8)) : Rdr := intsR 7 ⟨b, 0⟩
def q2 (b : List (BitVec 8)) : Rdr := (lstG oneA (q1 b)).1
def q3 (b : List (BitVec 8)) : Rdr := intsR 3 (q2 b)
def q4 (b : List (BitVec 8)) : Rdr := (lstG oneT (q3 b)).1
def q5 (b : List (BitVec 8)) : Rdr := (lstG oneH (q4 b)).1
def q6 (b : List (BitVec 8)) : Rdr := (lstG oneH (q5 b)).1
def q7 (b : List (BitVec 8)) : Rdr := (lstG oneL (q6 b)).1
def q8 (b : List (BitVec 8)) : Rdr := (lstG oneK (q7 b)).1
def decRul (b : List (BitVec 8)) : Rul := ⟨intV ⟨b, 0⟩, intV (intsR 1 ⟨b, 0⟩), intV (intsR 2 ⟨b, 0⟩), intV (intsR 3 ⟨b, 0⟩), intV (intsR 4 ⟨b, 0⟩), intV (intsR 5 ⟨b, 0⟩), intV (intsR 6 ⟨b, 0⟩), (lstG oneA (q1 b)).2⟩
def decStt (b : List (BitVec 8)) : Stt := ⟨intV (q2 b), intV (intsR 1 (q2 b)), intV (intsR 2 (q2 b)), (lstG oneT (q3 b)).2, (lstG oneH (q4 b)).2, (lstG oneH (q5 b)).2, (lstG oneL (q6 b)).2, (lstG oneK (q7 b)).2⟩
def decE (b : List (BitVec 8)) : Int := if (q8 b).E ≠ 0 then (q8 b).E else if (q8 b).B ≠ [] then 3 else shpErr (decRul b) (decStt b)
def decR32 (b : List (BitVec 8)) : Rul := if decE b ≠ 0 then Rul.zero else decRul b
def decS32 (b : List (BitVec 8)) : Stt := if decE b ≠ 0 then Stt.zero else decStt b
def decV32 (b : List (BitVec 8)) : AV := .tup [en (decR32 b), en (decS32 b), en (decE b)]
theorem ok_q1 {b : List (BitVec 8)} (h : okR ⟨b, 0⟩) : okR (q1 b) := ok_intsR 7 h
theorem ok_q2 {b : List (BitVec 8)} (h : okR ⟨b, 0⟩) : okR (q2 b) := ok_lstG ok_oneA (ok_q1 h)
theorem ok_q3 {b : List (BitVec 8)} (h : okR ⟨b, 0⟩) : okR (q3 b) := ok_intsR 3 (ok_q2 h)
theorem ok_q4 {b : List (BitVec 8)} (h : okR ⟨b, 0⟩) : okR (q4 b) := ok_lstG ok_oneT (ok_q3 h)
theorem ok_q5 {b : List (BitVec 8)} (h : okR ⟨b, 0⟩) : okR (q5 b) := ok_lstG ok_oneH (ok_q4 h)
theorem ok_q6 {b : List (BitVec 8)} (h : okR ⟨b, 0⟩) : okR (q6 b) := ok_lstG ok_oneH (ok_q5 h)
theorem ok_q7 {b : List (BitVec 8)} (h : okR ⟨b, 0⟩) : okR (q7 b) := ok_lstG ok_oneL (ok_q6 h)
theorem takes_len : ∀ (n : Nat) (r : Rdr) (acc : List Int), (takes n r acc).2.length ≤ acc.length + n
  | 0, r, acc => by simp [takes]
  | n + 1, r, acc => by
    unfold takes; split
    · simp
    · have := takes_len n (intR r) (acc ++ [intV r])
      simp at this; omega
theorem specV_after (r : Rdr) : (specV r).After.length ≤ 8 := by
  unfold specV
  split
  · simp [Spec.zero]
  · have h1 := takes_len (manyV (r6 r) 8 1).toNat (r7 r) []
    have h2 := manyV_le (r6 r) 8 1 (by omega)
    show (takeN r).2.length ≤ 8
    unfold takeN
    simp at h1; omega
theorem lstG_mem {α : Type} (one : Rdr → Rdr × α) {p : α → Prop} (hp : ∀ r, p (one r).2) (r : Rdr) : ∀ x ∈ (lstG one r).2, p x := by
  rw [lst_def]
  exact listG_mem one hp _ _ _ (by simp)
theorem okS_dec (b : List (BitVec 8)) : okS (decStt b) := by
  have l1 := lstG_len oneT (q3 b)
  have l2 := lstG_len oneH (q4 b)
  have l3 := lstG_len oneH (q5 b)
  have l4 := lstG_len oneL (q6 b)
  have l5 := lstG_len oneK (q7 b)
  have m1 : okTs (lstG oneT (q3 b)).2 := lstG_mem oneT (p := okT) (fun r => by
    have k1 := specV_after r
    have k2 := lstG_len oneI (intsR 4 (specR r))
    exact ⟨Nat.le_trans k1 (by decide), Nat.le_trans k2 (by decide)⟩) _
  have m2 : okLs (lstG oneL (q6 b)).2 := lstG_mem oneL (p := okL) (fun r => Nat.le_trans (lstG_len oneI (intsR 6 r)) (by decide)) _
  have m3 : okKs (lstG oneK (q7 b)).2 := lstG_mem oneK (p := okK) (fun r => Nat.le_trans (lstG_len oneI (intsR 2 r)) (by decide)) _
  exact ⟨Nat.le_trans l1 (by decide), Nat.le_trans l2 (by decide), Nat.le_trans l3 (by decide), Nat.le_trans l4 (by decide), Nat.le_trans l5 (by decide), m1, m2, m3⟩
theorem decRul_len (b : List (BitVec 8)) : (decRul b).Aisles.length ≤ 64 := lstG_len oneA (q1 b)
theorem closed_dec (b : List (BitVec 8)) : Closed (decV32 b) := closed_triple _ _ _
set_option maxHeartbeats 4000000 in
set_option maxRecDepth 20000 in
theorem det_snap_Decode (b : List (BitVec 8)) (h : b.length ≤ 1000000000) : Det Tryz.prog 9 [en b] [] (decV32 b) [] := by
  refine det_finF mixed0 (knows_cons known_SNums (knows_cons known_SListAisle (knows_cons known_SListTask (knows_cons known_SListHand (knows_cons known_SListLease (knows_cons known_SListLock (knows_cons known_SFail (knows_cons known_Shape knows_nil)))))))) ok_snap_Decode 3 (by simp) ?_
  have h0 : okR ⟨b, 0⟩ := h
  have h1 := ok_q1 h0
  have h2 := ok_q2 h0
  have h3 := ok_q3 h0
  have h4 := ok_q4 h0
  have h5 := ok_q5 h0
  have h6 := ok_q6 h0
  have h7 := ok_q7 h0
  have eR : (⟨intV ⟨b, 0⟩, intV (intR ⟨b, 0⟩), intV (intR (intR ⟨b, 0⟩)), intV (intR (intR (intR ⟨b, 0⟩))), intV (intR (intR (intR (intR ⟨b, 0⟩)))), intV (intR (intR (intR (intR (intR ⟨b, 0⟩))))), intV (intR (intR (intR (intR (intR (intR ⟨b, 0⟩)))))), (lstG oneA (q1 b)).2⟩ : Rul) = decRul b := rfl
  have eS : (⟨intV (q2 b), intV (intR (q2 b)), intV (intR (intR (q2 b))), (lstG oneT (q3 b)).2, (lstG oneH (q4 b)).2, (lstG oneH (q5 b)).2, (lstG oneL (q6 b)).2, (lstG oneK (q7 b)).2⟩ : Stt) = decStt b := rfl
  have hs := okS_dec b
  have hl : (lstG oneA (q1 b)).2.length ≤ 1073741824 := Nat.le_trans (lstG_len oneA (q1 b)) (by decide)
  have e1 : intsR 7 ⟨b, 0⟩ = q1 b := rfl
  have e2 : (lstG oneA (q1 b)).1 = q2 b := rfl
  have e3 : intsR 3 (q2 b) = q3 b := rfl
  have e4 : (lstG oneT (q3 b)).1 = q4 b := rfl
  have e5 : (lstG oneH (q4 b)).1 = q5 b := rfl
  have e6 : (lstG oneH (q5 b)).1 = q6 b := rfl
  have e7 : (lstG oneL (q6 b)).1 = q7 b := rfl
  have e8 : (lstG oneK (q7 b)).1 = q8 b := rfl
  simp [ic_snap_Decode, rs_snap_Decode, cNumsR, cListR, cFail, cShape, setC, h0, h1, h2, h3, h4, h5, h6, h7, e1, e2, e3, e4, e5, e6, e7, e8, vcLoose, heapsOf]
  rw [eR, eS]
  have ed : decV32 b = if decE b ≠ 0 then .tup [en Rul.zero, en Stt.zero, en (decE b)] else .tup [en (decRul b), en (decStt b), en (0 : Int)] := by
    unfold decV32 decR32 decS32
    by_cases he : decE b = 0 <;> simp [he]
  have dE : decE b = if (q8 b).E ≠ 0 then (q8 b).E else if (q8 b).B ≠ [] then 3 else shpErr (decRul b) (decStt b) := rfl
  by_cases hE : (q8 b).E = 0
  · by_cases hB : (q8 b).B = []
    · rw [if_neg (by simpa using hE), if_neg (by simpa using hB)] at dE
      by_cases hS : shpErr (decRul b) (decStt b) = 0
      · rw [hS] at dE
        rw [if_neg (by simp [dE])] at ed
        simp [hE, hB, hS, hs, hl, ed, failR]
        exact ⟨⟨rfl, rfl, rfl, rfl, rfl, rfl, rfl, rfl⟩, rfl, rfl, rfl, rfl, rfl, rfl, rfl, rfl⟩
      · rw [if_pos (by rw [dE]; exact hS), dE] at ed
        simp [hE, hB, hS, hs, hl, ed, failR, Rul.zero, Stt.zero]
    · rw [if_neg (by simpa using hE), if_pos hB] at dE
      rw [if_pos (by rw [dE]; decide), dE] at ed
      have hp : 0 < (q8 b).B.length := List.length_pos_iff.2 hB
      simp [hE, hB, hp, hs, hl, ed, failR, Rul.zero, Stt.zero]
  · rw [if_pos hE] at dE
    rw [if_pos (by rw [dE]; exact hE), dE] at ed
    simp [hE, ed, failR, Rul.zero, Stt.zero]
end Go.Proofs.YtnckibgcjgeekaaGreat.Sx
