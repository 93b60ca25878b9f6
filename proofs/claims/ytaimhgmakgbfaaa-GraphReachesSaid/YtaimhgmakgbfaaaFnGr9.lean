/- Package tallymanref16: the document's way. No conditions: a kit of our own. -/
import Derived.Test.YtaimhgmakgbfaaaFnGr7
namespace Go.Proofs.Ytaimhgmakgbfaaa.Sx
open Go Go.RowKit
open Hp (mget mput mdel HpS)
set_option linter.unusedVariables false
set_option linter.unusedSimpArgs false

theorem det_r16_free (N : List Int) (A : List Arc) (told : List Int) (n : Int) (hA : A.length ≤ 1073741823) (hN : N.length ≤ 1073741823) (ht : told.length ≤ 1073741823) : Det Try.prog 78 [en N, en A, en told, en n] [] (.bool (Gr.freeL N A told n)) [] := by
  refine det_finF mixed0 (knows_cons known_In knows_nil) ok_r16_free 1 (by simp) ?_
  simp [ic_r16_free, rs_r16_free]
  have hN' : N.length ≤ 9223372036854775807 := by omega
  have ht' : told.length ≤ 9223372036854775807 := by omega
  refine LoopC.scan Arc.zero A (fun i => ⟨[(0, .view (N.map Cel.c)), (1, .view (A.map Cel.c)), (2, .view (told.map Cel.c)), (3, .int .i64 n), (9, .int .i64 i)], []⟩) (fun r => Gr.freeL N r told n = Gr.freeL N A told n) (by simp) (by simp) rfl (fun i a r hi ha hG => ?_) fun hG => ?_
  · have hc : Gr.freeL N (a :: r) told n = (!(decide (a.To = n) && decide (a.From ∈ N) && !decide (a.From ∈ told)) && Gr.freeL N r told n) := rfl
    rw [hc] at hG
    by_cases h1 : a.To = n
    · by_cases h2 : a.From ∈ N
      · by_cases h3 : a.From ∈ told
        · simp [h1, h2, h3] at hG
          simp [hi, ha, cIn, hN', ht', h1, h2, h3]
          exact ⟨by omega, hG⟩
        · simp [h1, h2, h3] at hG
          simp [hi, ha, cIn, hN', ht', h1, h2, h3, hG]
      · simp [h1, h2] at hG
        simp [hi, ha, cIn, hN', ht', h1, h2]
        exact ⟨by omega, hG⟩
    · simp [h1] at hG
      simp [hi, ha, cIn, hN', ht', h1]
      exact ⟨by omega, hG⟩
  · have : Gr.freeL N [] told n = true := rfl
    rw [this] at hG
    simp [← hG]
def cFree : Ctr := C4 (fun (N : List Int) (A : List Arc) (told : List Int) (n : Int) => A.length ≤ 1073741823 ∧ N.length ≤ 1073741823 ∧ told.length ≤ 1073741823) fun N A told n => .bool (Gr.freeL N A told n)
theorem known_Free : Known Try.prog 78 cFree := known_C4 (fun N A told n h => det_r16_free N A told n h.1 h.2.1 h.2.2) fun N A told n => flat_bool _
theorem find_first {N : List Int} {p : Int → Bool} {i : Nat} (hi : i < N.length) (h1 : ∀ k, k < i → p (nth N k 0) = false) (h2 : p (nth N i 0) = true) : N.find? p = some (nth N i 0) := by
  rw [List.find?_eq_some_iff_getElem]
  refine ⟨h2, i, hi, by rw [nth_get hi], fun j hj => ?_⟩
  have := h1 j hj
  rw [nth_get (by omega)] at this
  simp [this]
theorem find_none {N : List Int} {p : Int → Bool} (h1 : ∀ k, k < N.length → p (nth N k 0) = false) : N.find? p = none := by
  rw [List.find?_eq_none]
  intro x hx
  obtain ⟨k, hk, rfl⟩ := List.mem_iff_getElem.1 hx
  have := h1 k hk
  rw [nth_get hk] at this
  simp [this]
theorem det_r16_Order (ids : List Int) (A : List Arc) (hi : ids.length ≤ 536870912) (hA : A.length ≤ 1073741823) : Det Try.prog 21 [en ids, en A] [] (ordV ids A) [] := by
  have hN := rise_setL ids
  have hl := setL_len ids
  refine det_finF mixed0 (knows_cons known_R16Set (knows_cons known_In (knows_cons known_Free knows_nil))) ok_r16_Order 2 (by simp) ?_
  simp [ic_r16_Order, rs_r16_Order, cR16Set, hi, ordV]
  generalize setL ids = N at *
  have hl' : N.length ≤ 1073741823 := by omega
  refine LoopC.genR (fun b : List Int × Nat => ⟨[(1, .view (A.map Cel.c)), (6, .view (N.map Cel.c)), (7, bs 0 (b.1.map Cel.c)), (8, .int .i64 b.2)], [bob 1 (b.1.map Cel.c)]⟩)
    (fun b => (Gr.GSeq N A b.1 ∧ b.1.Nodup ∧ ∀ x ∈ b.1, x ∈ N) ∧ b.2 ≤ N.length ∧ ∀ k, k < b.2 → Gr.may N A b.1 (nth N k 0) = false) (fun b => (N.length - b.1.length) * (N.length + 1) + (N.length - b.2)) ([], 0) [0] (by simp [atR, gOk, cvw]) ⟨⟨Gr.gseq_nil N A, by simp, by simp⟩, by simp, fun k hk => absurd hk (Nat.not_lt_zero _)⟩ ?_
  rintro ⟨told, i⟩ ⟨⟨h1, h2, h3⟩, h4, h5⟩
  simp only at h1 h2 h3 h4 h5
  have htl := Gr.nodup_len h2 h3
  have ht' : told.length ≤ 9223372036854775807 := by omega
  have ht2 : told.length ≤ 1073741823 := by omega
  by_cases hin : i < N.length
  · have hmem : nth N i 0 ∈ N := by rw [nth_get hin]; exact List.getElem_mem _
    by_cases hm : Gr.may N A told (nth N i 0) = true
    · have hav : Gr.avail N A told = some (nth N i 0) := find_first hin h5 hm
      obtain ⟨m1, m2⟩ := Gr.may_iff.1 hm
      have hlt : told.length < N.length := by
        have := Gr.nodup_len (a := nth N i 0 :: told) (N := N) (List.nodup_cons.2 ⟨m1, h2⟩) fun x hx => by
          rcases List.mem_cons.1 hx with e | e
          · rw [e]; exact hmem
          · exact h3 x e
        simp at this; omega
      simp [hin, cIn, cFree, ht', ht2, hl', hA, m1, m2]
      refine ⟨told ++ [nth N i 0], 0, ⟨[1], by simp [atR, gOk, cvw]⟩, ⟨⟨Gr.gseq_snoc h1 hav, ?_, fun x hx => ?_⟩, by omega, fun k hk => absurd hk (Nat.not_lt_zero _)⟩, ?_⟩
      · rw [List.nodup_append]
        exact ⟨h2, by simp, fun a ha b hb e => m1 (by rw [List.mem_singleton] at hb; rw [← hb, ← e]; exact ha)⟩
      · rcases List.mem_append.1 hx with e | e
        · exact h3 x e
        · rw [List.mem_singleton.1 e]; exact hmem
      · have e1 : N.length - told.length = (N.length - (told.length + 1)) + 1 := by omega
        simp only [List.length_append, List.length_cons, List.length_nil, Nat.zero_add]
        rw [e1, Nat.add_mul]
        omega
    · have hm' : Gr.may N A told (nth N i 0) = false := by simpa using hm
      have inv : ∀ k, k < i + 1 → Gr.may N A told (nth N k 0) = false := fun k hk => by
        by_cases e : k = i
        · rw [e]; exact hm'
        · exact h5 k (by omega)
      by_cases m1 : nth N i 0 ∈ told
      · simp [hin, cIn, cFree, ht', ht2, hl', hA, m1]
        refine ⟨by omega, told, i + 1, ⟨[0], by simp [atR, gOk, cvw]⟩, ⟨⟨h1, h2, h3⟩, by omega, inv⟩, by omega⟩
      · have m2 : Gr.freeL N A told (nth N i 0) = false := by
          cases e : Gr.freeL N A told (nth N i 0)
          · rfl
          · exact absurd (Gr.may_iff.2 ⟨m1, e⟩) hm
        simp [hin, cIn, cFree, ht', ht2, hl', hA, m1, m2]
        refine ⟨by omega, told, i + 1, ⟨[0], by simp [atR, gOk, cvw]⟩, ⟨⟨h1, h2, h3⟩, by omega, inv⟩, by omega⟩
  · obtain rfl : i = N.length := by omega
    have he : told = toldO N A := Gr.gseq_uniq h1 (told_end A hN).2 (find_none h5) (told_end A hN).1
    rw [← he]
    simp
def cR16Order : Ctr := V2 (fun (ids : List Int) (A : List Arc) => ids.length ≤ 536870912 ∧ A.length ≤ 1073741823) ordV
theorem known_R16Order : Known Try.prog 21 cR16Order := known_V2 (fun ids A h => det_r16_Order ids A h.1 h.2) fun ids A h => closed_ordV ids A
theorem det_r16_Left (ids : List Int) (A : List Arc) (hi : ids.length ≤ 536870912) (hA : A.length ≤ 1073741823) : Det Try.prog 24 [en ids, en A] [] (en (leftO (setL ids) A)) [] := by
  have hN := rise_setL ids
  have hl := setL_len ids
  refine det_finF mixed0 (knows_cons known_R16Set (knows_cons known_In (knows_cons known_R16Order knows_nil))) ok_r16_Left 2 (by simp) ?_
  simp [ic_r16_Left, rs_r16_Left, cR16Set, cR16Order, hi, hA, ordV]
  have htl := told_len A hN
  have hlo : leftO (setL ids) A = (setL ids).filter fun n => !decide (n ∈ toldO (setL ids) A) := rfl
  generalize leftO (setL ids) A = res at *
  generalize toldO (setL ids) A = told at *
  generalize setL ids = N at *
  have ht' : told.length ≤ 9223372036854775807 := by omega
  refine LoopC.scanR (0 : Int) N (fun i (b : List Int) => ⟨[(5, .view (N.map Cel.c)), (6, .view (told.map Cel.c)), (8, bs 0 (b.map Cel.c)), (9, .int .i64 i)], [bob 1 (b.map Cel.c)]⟩)
    (fun i b r => eqL b ((N.take i).filter fun n => !decide (n ∈ told))) [] [0] (by simp [atR, gOk, cvw]) rfl (fun i a r b hi ha hd hG => ?_) fun b hG => ?_
  · unfold eqL at hG
    have hb : b.length ≤ i := by
      rw [hG]
      have := List.length_filter_le (fun n => !decide (n ∈ told)) (N.take i)
      simp at this ⊢; omega
    have hft := filter_take (fun n => !decide (n ∈ told)) hi
    rw [ha, ← hG] at hft
    by_cases hnt : a ∈ told
    · simp only [hnt, decide_true, Bool.not_true, Bool.false_eq_true, if_false, List.append_nil] at hft
      simp [hi, ha, cIn, ht', hnt]
      refine ⟨by omega, b, ⟨[0], by simp [atR, gOk, cvw]⟩, hft.symm⟩
    · simp only [hnt, decide_false, Bool.not_false, if_true] at hft
      simp [hi, ha, cIn, ht', hnt]
      refine ⟨by omega, by omega, b ++ [a], ⟨[1], by simp [atR, gOk, cvw]⟩, hft.symm⟩
  · unfold eqL at hG
    rw [List.take_length, ← hlo] at hG
    rw [← hG]; simp
def cR16Left : Ctr := V2 (fun (ids : List Int) (A : List Arc) => ids.length ≤ 536870912 ∧ A.length ≤ 1073741823) fun ids A => en (leftO (setL ids) A)
theorem known_R16Left : Known Try.prog 24 cR16Left := known_V2 (fun ids A h => det_r16_Left ids A h.1 h.2) fun ids A h => closed_en _
end Go.Proofs.Ytaimhgmakgbfaaa.Sx
/- Package tallymanref16: levels, what is reached. No conditions: a kit of our own. -/
namespace Go.Proofs.Ytaimhgmakgbfaaa.Sx
open Go Go.RowKit
open Hp (mget mput mdel HpS)
set_option linter.unusedVariables false
set_option linter.unusedSimpArgs false

/-! ### levels, as a list beside those that are told -/
def levsO (A : List Arc) (told : List Int) : List Int := (Gr.doneOf A told).map (·.2)
theorem doneOf_len (A : List Arc) (told : List Int) : (Gr.doneOf A told).length = told.length := by
  have key : ∀ (l : List Int) (d : List (Int × Int)), (l.foldl (fun d n => d ++ [(n, Gr.levR A d n)]) d).length = d.length + l.length := fun l => by
    induction l with
    | nil => intro d; simp
    | cons n l ih => intro d; simp only [List.foldl_cons]; rw [ih]; simp; omega
  have := key told []
  simpa [Gr.doneOf] using this
theorem doneOf_take (A : List Arc) : ∀ (told : List Int) (i : Nat), i ≤ told.length → (Gr.doneOf A told).take i = Gr.doneOf A (told.take i) := fun told i hi => by
  have key : ∀ (l : List Int) (d : List (Int × Int)) (j : Nat), j ≤ l.length → (l.foldl (fun d n => d ++ [(n, Gr.levR A d n)]) d).take (d.length + j) = (l.take j).foldl (fun d n => d ++ [(n, Gr.levR A d n)]) d := fun l => by
    induction l with
    | nil => intro d j hj; simp at hj; subst hj; simp
    | cons n l ih =>
      intro d j hj
      cases j with
      | zero =>
        simp only [List.foldl_cons, Nat.add_zero, List.take_zero, List.foldl_nil]
        have hl : ∀ (l : List Int) (d : List (Int × Int)), d <+: l.foldl (fun d n => d ++ [(n, Gr.levR A d n)]) d := fun l => by
          induction l with
          | nil => intro d; exact List.prefix_refl _
          | cons n l ih => intro d; exact (List.prefix_append _ _).trans (ih _)
        obtain ⟨t, ht⟩ := (List.prefix_append d [(n, Gr.levR A d n)]).trans (hl l (d ++ [(n, Gr.levR A d n)]))
        rw [← ht]; simp
      | succ j =>
        simp only [List.foldl_cons, List.take_succ_cons]
        have := ih (d ++ [(n, Gr.levR A d n)]) j (by simp at hj; omega)
        rw [← this]
        simp; omega
  have := key told [] i hi
  simpa [Gr.doneOf] using this
theorem doneOf_nth (A : List Arc) (told : List Int) (i : Nat) (hi : i < told.length) : nth (Gr.doneOf A told) i (0, 0) = (nth told i 0, Gr.levR A ((Gr.doneOf A told).take i) (nth told i 0)) := by
  have h1 := doneOf_take A told (i + 1) (by omega)
  have h2 := doneOf_take A told i (by omega)
  rw [take_nth hi, Gr.doneOf_snoc] at h1
  have h3 : ((Gr.doneOf A told).take (i + 1))[i]? = some (nth told i 0, Gr.levR A (Gr.doneOf A (told.take i)) (nth told i 0)) := by
    rw [h1, List.getElem?_append_right (by rw [doneOf_len]; simp; omega)]
    rw [doneOf_len]
    have : i - (told.take i).length = 0 := by simp; omega
    rw [this]; rfl
  rw [List.getElem?_take, if_pos (by omega)] at h3
  rw [h2]
  simp only [nth, List.getD_eq_getElem?_getD, h3, Option.getD_some]
/-- The levels so far, v at place i, nothing behind it. -/
def LV (levs : List Int) (n i : Nat) (v : Int) : List Int := levs.take i ++ v :: List.replicate (n - 1 - i) 0
section
variable {levs : List Int} {n i : Nat} {v : Int}
theorem LV_len (h : levs.length = n) (hi : i < n) : (LV levs n i v).length = n := by simp [LV]; omega
theorem LV_at (h : levs.length = n) (hi : i < n) : nth (LV levs n i v) i 0 = v := by
  have : (levs.take i).length = i := by simp; omega
  simp only [LV, nth, List.getD_eq_getElem?_getD]
  rw [List.getElem?_append_right (by omega), this]
  simp
theorem LV_lt (h : levs.length = n) (hi : i < n) {k : Nat} (hk : k < i) : nth (LV levs n i v) k 0 = nth levs k 0 := by
  have : (levs.take i).length = i := by simp; omega
  simp only [LV, nth, List.getD_eq_getElem?_getD]
  rw [List.getElem?_append_left (by omega), List.getElem?_take, if_pos hk]
theorem LV_set (h : levs.length = n) (hi : i < n) (v' : Int) : ((LV levs n i v).map (Cel.c (α := Int))).set i [.int .i64 v'] = (LV levs n i v').map Cel.c := by
  have hl : (levs.take i).length = i := by simp; omega
  have e : (LV levs n i v).set i v' = LV levs n i v' := by
    simp only [LV]
    rw [List.set_append_right _ _ (by omega), hl]
    simp
  rw [← e, List.map_set]; rfl
/-- The levels so far, nothing behind them. -/
def LW (levs : List Int) (n i : Nat) : List Int := levs.take i ++ List.replicate (n - i) 0
theorem LW_zero : LW levs n 0 = List.replicate n 0 := by simp [LW]
theorem LW_all (h : levs.length = n) : LW levs n n = levs := by
  simp only [LW, Nat.sub_self, List.replicate_zero, List.append_nil]
  exact List.take_of_length_le (by omega)
theorem LV_next (h : levs.length = n) (hi : i < n) : LV levs n i (nth levs i 0) = LW levs n (i + 1) := by
  simp only [LV, LW]
  rw [take_nth (by omega : i < levs.length), List.append_assoc, show n - 1 - i = n - (i + 1) by omega]
  rfl
theorem LV_first (h : levs.length = n) (hi : i < n) : LW levs n i = LV levs n i 0 := by
  simp only [LV, LW]
  rw [show n - i = (n - 1 - i) + 1 by omega, List.replicate_succ]
end
/-- The level that stands beside a node, or -1. -/
def lkF (done : List (Int × Int)) (x : Int) : Int := done.foldl (fun v d => if d.1 = x then d.2 else v) (-1)
theorem lk_lay (x : Int) : ∀ (done : List (Int × Int)) (m : List (Int × Int)), (mget (done.foldl (fun m d => mput m d.1 d.2) m) x).getD (-1) = done.foldl (fun v d => if d.1 = x then d.2 else v) ((mget m x).getD (-1))
  | [], m => rfl
  | d :: done, m => by
    simp only [List.foldl_cons]
    rw [lk_lay x done, Hp.mget_put]
    by_cases h : d.1 = x
    · simp [h]
    · have : ¬ x = d.1 := fun e => h e.symm
      simp [h, this]
theorem lvlO_lk (N : List Int) (A : List Arc) (x : Int) : lvlO N A x = lkF (Gr.doneOf A (toldO N A)) x := by
  unfold lvlO lkF layO
  rw [lk_lay]; rfl
set_option maxHeartbeats 8000000 in
theorem det_r16_Levels (ids : List Int) (A : List Arc) (hi : ids.length ≤ 536870912) (hA : A.length ≤ 1073741823) : Det Try.prog 28 [en ids, en A] [] (en (levelsO (setL ids) A)) [] := by
  have hN := rise_setL ids
  have hl := setL_len ids
  refine det_finF mixed0 (knows_cons known_R16Set (knows_cons known_R16Order knows_nil)) ok_r16_Levels 2 (by simp) ?_
  have htl := told_len A hN
  simp [ic_r16_Levels, rs_r16_Levels, cR16Set, cR16Order, hi, hA, ordV]
  have hlk := lvlO_lk (setL ids) A
  have hlo : levelsO (setL ids) A = (setL ids).map (lvlO (setL ids) A) := rfl
  generalize lvlO (setL ids) A = lv at *
  generalize levelsO (setL ids) A = res at *
  generalize toldO (setL ids) A = told at *
  generalize setL ids = N at *
  have hdl := doneOf_len A told
  have hdn := doneOf_nth A told
  have hbd := doneOf_bound A told [] (by simp)
  have hl' : N.length ≤ 1073741823 := by omega
  have ht2 : told.length ≤ 1073741823 := by omega
  change ∀ x ∈ Gr.doneOf A told, _ at hbd
  generalize Gr.doneOf A told = done at *
  obtain ⟨levs, hlevs⟩ : ∃ levs, levs = done.map (·.2) := ⟨_, rfl⟩
  have hll : levs.length = told.length := by rw [hlevs]; simp [hdl]
  have hln : ∀ k, k < told.length → nth levs k 0 = (nth done k (0, 0)).2 := fun k hk => by
    rw [hlevs, nth_get (by simp [hdl]; exact hk), nth_get (by omega)]; simp
  have hlb : ∀ k, k < told.length → 0 ≤ nth levs k 0 ∧ nth levs k 0 < told.length := fun k hk => by
    have := hbd (nth done k (0, 0)) (by rw [nth_get (by omega)]; exact List.getElem_mem _)
    rw [← hln k hk] at this
    simpa using this
  have hN1 : ∀ i, i < told.length → nth done i (0, 0) = (nth told i 0, nth levs i 0) := fun i hi => by
    rw [hln i hi]; have := hdn i hi; rw [this]
  have hN2 : ∀ i, i < told.length → nth levs i 0 = Gr.levR A (done.take i) (nth told i 0) := fun i hi => by
    rw [hln i hi, hdn i hi]
  have h0 : List.replicate told.length [AV.int .i64 0] = (LW levs told.length 0).map Cel.c := by rw [LW_zero]; simp
  refine ⟨by omega, ?_⟩
  rw [h0]
  refine LoopC.scanB (0 : Int) told (fun i (b : Unit) => ⟨[(1, .view (A.map Cel.c)), (5, .view (N.map Cel.c)), (6, .view (told.map Cel.c)), (8, .sl 0 0 told.length), (9, .int .i64 i)], [.rows 1 ((LW levs told.length i).map Cel.c)]⟩)
    (fun _ _ _ => True) () (by simp) (by simp) trivial (fun i x r0 _ hi' hx _ _ => ?_) fun _ _ => ?_
  · rw [LV_first hll hi']
    have hlvn := fun v => LV_len (v := v) hll hi'
    have hlva := fun v => LV_at (v := v) hll hi'
    have hlvs := fun v v' => LV_set (v := v) hll hi' v'
    have hti : (done.take i).length = i := by simp; omega
    simp [hi']
    refine LoopC.scanB ((0, 0) : Int × Int) (done.take i) (fun k (v : Int) => ⟨[(1, .view (A.map Cel.c)), (5, .view (N.map Cel.c)), (6, .view (told.map Cel.c)), (8, .sl 0 0 told.length), (9, .int .i64 i), (10, .int .i64 k)], [.rows 1 ((LV levs told.length i v).map Cel.c)]⟩)
      (fun k v r => r.foldl (fun v d => A.foldl (fun v a => if a.From = d.1 ∧ a.To = x then max v (d.2 + 1) else v) v) v = nth levs i 0) 0 (by simp) (by simp) (by rw [hN2 i hi', hx]; rfl) (fun k d r1 v hk hd hdd hG => ?_) fun v hG => ?_
    · rw [hti] at hk
      have hkt : k < told.length := by omega
      have hd1 : d = (nth told k 0, nth levs k 0) := by
        rw [← hd, ← hN1 k hkt]
        simp only [nth, List.getD_eq_getElem?_getD, List.getElem?_take, if_pos hk]
      have hlvk := fun v => LV_lt (v := v) hll hi' hk
      have hb1 := hlb k hkt
      simp only [List.foldl_cons, hd1] at hG
      simp [hk]
      refine LoopC.scanB Arc.zero A (fun j (v : Int) => ⟨[(1, .view (A.map Cel.c)), (5, .view (N.map Cel.c)), (6, .view (told.map Cel.c)), (8, .sl 0 0 told.length), (9, .int .i64 i), (10, .int .i64 k), (11, .int .i64 j)], [.rows 1 ((LV levs told.length i v).map Cel.c)]⟩)
        (fun j w r => r.foldl (fun v a => if a.From = nth told k 0 ∧ a.To = x then max v (nth levs k 0 + 1) else v) w = A.foldl (fun v a => if a.From = nth told k 0 ∧ a.To = x then max v (nth levs k 0 + 1) else v) v) v (by simp) (by simp) rfl (fun j a r w hj ha hda hG2 => ?_) fun w hG2 => ?_
      · simp only [List.foldl_cons] at hG2
        by_cases c1 : a.From = nth told k 0
        · by_cases c2 : a.To = x
          · simp only [c1, c2, and_self, if_true] at hG2
            simp [hj, ha, hi', hkt, hx, c1, c2, hlvn, hlva, hlvk, hlvs, mx_max, vcLoose, heapsOf]
            exact ⟨by omega, by omega, _, seenOb_self _, hG2⟩
          · simp only [c1, c2, and_false, if_false] at hG2
            simp [hj, ha, hi', hkt, hx, c1, c2, vcLoose, heapsOf]
            exact ⟨by omega, _, seenOb_self _, hG2⟩
        · simp only [c1, false_and, if_false] at hG2
          simp [hj, ha, hi', hkt, hx, c1, vcLoose, heapsOf]
          exact ⟨by omega, _, seenOb_self _, hG2⟩
      · simp
        simp only [List.foldl_nil] at hG2
        refine ⟨by omega, _, seenOb_self _, ?_⟩
        rw [hG2]; exact hG
    · simp only [List.foldl_nil] at hG
      have hmi : min i done.length = i := by omega
      rw [hG, LV_next hll hi']
      simp [hmi]
      omega
  · rw [LW_all hll]
    simp
    refine LoopC.scanR (0 : Int) N (fun i (b : List Int) => ⟨[(5, .view (N.map Cel.c)), (6, .view (told.map Cel.c)), (8, .sl 0 0 told.length), (12, bs 1 (b.map Cel.c)), (13, .int .i64 i)], [.rows 1 (levs.map Cel.c), bob 1 (b.map Cel.c)]⟩)
      (fun i b r => eqL b ((N.take i).map lv)) [] [0, 1] (by simp [atR, gOk, cvw] <;> decide) rfl (fun i x r b hi' hx _ hG => ?_) fun b hG => ?_
    · unfold eqL at hG
      have hb : b.length ≤ i := by rw [hG]; simp; omega
      have hft : (N.take (i + 1)).map lv = b ++ [lv x] := by rw [take_nth hi', hx, hG]; simp
      simp [hi']
      refine LoopC.scanB ((0, 0) : Int × Int) done (fun k (v : Int) => ⟨[(5, .view (N.map Cel.c)), (6, .view (told.map Cel.c)), (8, .sl 0 0 told.length), (12, bs 1 (b.map Cel.c)), (13, .int .i64 i), (14, .int .i64 v), (15, .int .i64 k)], [.rows 1 (levs.map Cel.c), bob 1 (b.map Cel.c)]⟩)
        (fun k v r => r.foldl (fun v d => if d.1 = x then d.2 else v) v = lv x) (-1) (by simp) (by simp) (by rw [hlk]; rfl) (fun k d r1 v hk hd hdd hG => ?_) fun v hG => ?_
      · have hkt : k < told.length := by omega
        have hd1 : d = (nth told k 0, nth levs k 0) := by rw [← hd, ← hN1 k hkt]
        simp only [List.foldl_cons, hd1] at hG
        by_cases c1 : nth told k 0 = x
        · simp only [c1, if_true] at hG
          simp [hkt, hi', hx, c1, vcLoose, heapsOf]
          exact ⟨by omega, by omega, hG⟩
        · simp only [c1, if_false] at hG
          simp [hkt, hi', hx, c1, vcLoose, heapsOf]
          exact ⟨by omega, hG⟩
      · simp only [List.foldl_nil] at hG
        simp [hdl]
        rw [← hG] at hft
        refine ⟨by omega, by omega, b ++ [v], ⟨[0, 2], by simp [atR, gOk, cvw] <;> decide⟩, by show b ++ [v] = _; rw [← List.map_take, hft]⟩
    · unfold eqL at hG
      rw [List.take_length, ← hlo] at hG
      rw [← hG]; simp
end Go.Proofs.Ytaimhgmakgbfaaa.Sx
