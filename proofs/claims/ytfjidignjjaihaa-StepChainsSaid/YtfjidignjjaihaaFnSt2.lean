/- Package step: people (maps). No conditions: a kit of our own. -/
import Derived.Test.YtfjidignjjaihaaFnSt1
namespace Go.Proofs.Ytfjidignjjaihaa.Sx
open Go Go.RowKit
set_option linter.unusedVariables false
set_option linter.unusedSimpArgs false

theorem alook_aput (k : Int) (v : AV) (n : Int) : ∀ es : List (Int × AV), alook (aput es k v) n = if n = k then some v else alook es n
  | [] => by
    by_cases h : n = k
    · subst h; simp [alook, aput]
    · have : ¬ k = n := fun e => h e.symm
      simp [alook, aput, h, this]
  | x :: es => by
    have ih := alook_aput k v n es
    simp only [aput]
    by_cases hx : x.1 = k
    · rw [if_pos hx]
      by_cases h : n = k
      · subst h; simp [alook]
      · have h2 : ¬ k = n := fun e => h e.symm
        have h3 : ¬ x.1 = n := fun e => h (by omega)
        simp [alook, h, h2, h3]
    · rw [if_neg hx]
      by_cases h : x.1 = n
      · have h3 : ¬ n = k := fun e => hx (by omega)
        simp [alook, h, h3]
      · simp only [alook] at ih ⊢
        rw [List.find?_cons_of_neg (by simpa using h), List.find?_cons_of_neg (by simpa using h)]
        exact ih
def chkH (b : List Hand) (h : Hand) : Bool := match b.find? fun y => decide (y.ID = h.ID) with
  | some y => decide (y.Bits = h.Bits)
  | none => false
def handG (b : List Hand) : List Hand → List Hand → Bool
  | _, [] => true
  | pre, h :: r => (pre.any (fun x => decide (x.ID = h.ID)) || chkH b h) && handG b (pre ++ [h]) r
/-- The first of an ID. -/
def fstH (a : List Hand) (n : Int) : Option Hand := a.find? fun x => decide (x.ID = n)
theorem handG_all (b : List Hand) : ∀ (pre r : List Hand), handG b pre r = r.all fun h => (pre.any (fun x => decide (x.ID = h.ID))) || (match fstH r h.ID with | some x => chkH b x | none => false)
  | pre, [] => rfl
  | pre, h :: r => by
    rw [handG, handG_all b (pre ++ [h]) r, List.all_cons]
    have e1 : fstH (h :: r) h.ID = some h := by simp [fstH]
    rw [e1]
    simp only []
    rw [Bool.eq_iff_iff]
    simp only [Bool.and_eq_true, List.all_eq_true, Bool.or_eq_true, List.any_append, List.any_cons, List.any_nil, Bool.or_false, decide_eq_true_eq]
    constructor
    · rintro ⟨h1, h2⟩
      refine ⟨h1, fun x hx => ?_⟩
      by_cases hxh : h.ID = x.ID
      · rw [← hxh]
        rcases h1 with h1 | h1
        · exact .inl h1
        · rw [e1]; exact .inr h1
      · rcases h2 x hx with (h3 | h3) | h3
        · exact .inl h3
        · exact absurd h3 hxh
        · refine .inr ?_
          rw [fstH, List.find?_cons_of_neg (by simpa using hxh)]
          exact h3
    · rintro ⟨h1, h2⟩
      refine ⟨h1, fun x hx => ?_⟩
      by_cases hxh : h.ID = x.ID
      · exact .inl (.inr hxh)
      · rcases h2 x hx with h3 | h3
        · exact .inl (.inl h3)
        · rw [fstH, List.find?_cons_of_neg (by simpa using hxh)] at h3
          exact .inr h3

def bitsAV (h : Hand) : AV := .int .u64 h.Bits.toNat
/-- How many have an ID. -/
def cntH (l : List Hand) (n : Int) : Nat := l.countP fun x => decide (x.ID = n)
theorem cntH_snoc (l : List Hand) (h : Hand) (n : Int) : cntH (l ++ [h]) n = cntH l n + if h.ID = n then 1 else 0 := by
  simp [cntH, List.countP_append, List.countP_singleton]
theorem cntH_any (l : List Hand) (n : Int) : l.any (fun x => decide (x.ID = n)) = decide (0 < cntH l n) := by
  rw [Bool.eq_iff_iff]; simp [cntH, List.countP_pos_iff]
theorem cntH_len (l : List Hand) (n : Int) : cntH l n ≤ l.length := List.countP_le_length
theorem take_snocH {l : List Hand} {i : Nat} {a : Hand} {r : List Hand} (hi : i < l.length) (hd : l.drop i = a :: r) : l.take (i + 1) = l.take i ++ [a] := by
  have h1 := List.drop_eq_getElem_cons hi
  rw [hd] at h1
  simp only [List.cons.injEq] at h1
  rw [h1.1, List.take_append_getElem]
theorem mem_aput {k : Int} {v : AV} {e : Int × AV} : ∀ {es : List (Int × AV)}, e ∈ aput es k v → e ∈ es ∨ e = (k, v)
  | [], h => by simp [aput] at h; exact .inr h
  | x :: es, h => by
    simp only [aput] at h
    split at h
    · rcases List.mem_cons.1 h with h | h
      · exact .inr h
      · exact .inl (by simp [h])
    · rcases List.mem_cons.1 h with h | h
      · exact .inl (by simp [h])
      · rcases mem_aput h with h | h
        · exact .inl (by simp [h])
        · exact .inr h
@[simp] theorem lookAns_some0 (z v : AV) : lookAns z false (some v) = v := rfl
@[simp] theorem lookAns_some1 (z v : AV) : lookAns z true (some v) = .tup [v, .bool true] := rfl
@[simp] theorem lookAns_none0 (z : AV) : lookAns z false none = z := rfl
@[simp] theorem lookAns_none1 (z : AV) : lookAns z true none = .tup [z, .bool false] := rfl
attribute [local irreducible] handG
theorem handG_nil (b pre : List Hand) : handG b pre [] = true := by unfold handG; rfl
theorem handG_cons (b pre : List Hand) (h : Hand) (r : List Hand) : handG b pre (h :: r) = ((pre.any (fun x => decide (x.ID = h.ID)) || chkH b h) && handG b (pre ++ [h]) r) := by
  conv => lhs; unfold handG
def cntO (l : List Hand) (n : Int) : Option AV := if cntH l n = 0 then none else some (.int .i64 (cntH l n))
structure FstInv (a b : List Hand) (i : Nat) (fs : List (Int × AV)) : Prop where
  le : i ≤ a.length
  look : ∀ n, alook fs n = cntO (a.take i) n
  int : ∀ e ∈ fs, ∃ k, e.2 = .int .i64 k
  is : handG b [] a = handG b (a.take i) (a.drop i)
theorem det_step_hands (a b : List Hand) (ha : a.length ≤ 1000) (hb : b.length ≤ 1000) : Det Try.prog 136 [en a, en b] [] (.bool (handG b [] a)) [] := by
  refine det_finF mixed0 knows_nil ok_step_hands 1 (by simp) ?_
  simp [ic_step_hands, rs_step_hands]
  refine LoopC.gen (fun s : Nat × List (Int × AV) => ⟨[(0, .view (a.map Cel.c)), (1, .view (b.map Cel.c)), (5, .map 0), (15, .int .i64 b.length), (16, .int .i64 s.1)], [.imap s.2]⟩) (fun s => s.1 ≤ b.length ∧ (∀ n, alook s.2 n = (fstH (b.drop (b.length - s.1)) n).map bitsAV) ∧ ∀ e ∈ s.2, ∃ x : Hand, e.2 = bitsAV x) (fun s => b.length - s.1) (0, []) (fun s hs => ?_) (by simp) (by simp [fstH, alook]) ?_
  · simp
    intro k v hv
    obtain ⟨x, hx⟩ := hs.2.2 _ hv
    simp only at hx
    rw [hx]; exact low_int _ _
  rintro ⟨i, es⟩ ⟨hi, hG, hE⟩
  simp only at hi hG hE
  by_cases hlt : i < b.length
  · simp [hlt]
    refine ⟨by omega, by omega, by omega, by omega, i + 1, _, ⟨by simp, .inl rfl⟩, ⟨hlt, fun n => ?_, fun k v hv => ?_⟩, by omega⟩
    · have e : b.length - i = b.length - 1 - i + 1 := by omega
      have e2 : b.length - (i + 1) = b.length - 1 - i := by omega
      rw [alook_aput, e2, drop_nth Hand.zero (show b.length - 1 - i < b.length by omega), ← e]
      by_cases hn : n = (nth b (b.length - 1 - i) Hand.zero).ID
      · rw [if_pos hn, fstH, List.find?_cons_of_pos (by simp [hn])]
        rfl
      · rw [if_neg hn, fstH, List.find?_cons_of_neg (by simpa using fun h => hn h.symm)]
        exact hG n
    · rcases mem_aput hv with h | h
      · exact hE _ h
      · cases h; exact ⟨nth b (b.length - 1 - i) Hand.zero, rfl⟩
  · have hie : i = b.length := by omega
    subst hie
    simp only [Nat.sub_self, List.drop_zero] at hG
    simp
    refine LoopC.gen (fun s : Nat × List (Int × AV) => ⟨[(5, .map 0), (8, .map 1), (34, .view (a.map Cel.c)), (35, .int .i64 a.length), (36, .int .i64 s.1)], [.imap es, .imap s.2]⟩) (fun s => FstInv a b s.1 s.2) (fun s => a.length - s.1) (0, []) (fun s hs => ?_) (by simp) ⟨by simp, by simp [cntO, cntH, alook], by simp, by simp⟩ ?_
    · simp
      refine ⟨fun k v hv => ?_, fun k v hv => ?_⟩
      · obtain ⟨x, hx⟩ := hE _ hv
        simp only at hx
        rw [hx]; exact low_int _ _
      · obtain ⟨x, hx⟩ := hs.int _ hv
        simp only at hx
        rw [hx]; exact low_int _ _
    rintro ⟨i, fs⟩ ⟨m1, m2, m3, m4⟩
    simp only at m1 m2 m3 m4
    by_cases hlt : i < a.length
    · have hd := drop_nth Hand.zero hlt
      generalize hx : nth a i Hand.zero = x at hd
      have ht := take_snocH hlt hd
      rw [hd, handG_cons, ← ht, cntH_any] at m4
      have hl : ∀ n, lookAns (.int .i64 0) false (alook fs n) = .int .i64 (cntH (a.take i) n) := fun n => by
        rw [m2, cntO]; split
        · rename_i h; rw [h]; rfl
        · rfl
      have hc := cntH_len (a.take i) x.ID
      have hc2 : (a.take i).length ≤ 1000 := by simp; omega
      have next : (decide (0 < cntH (a.take i) x.ID) || chkH b x) = true → FstInv a b (i + 1) (aput fs x.ID (.int .i64 ((cntH (a.take i) x.ID : Int) + 1))) := fun h => by
        refine ⟨hlt, fun n => ?_, fun e he => ?_, ?_⟩
        · rw [alook_aput, m2, cntO, cntO, ht, cntH_snoc]
          by_cases hn : n = x.ID
          · subst hn; simp
          · have : ¬ x.ID = n := fun h => hn h.symm
            simp [hn, this]
        · rcases mem_aput he with h | h
          · exact m3 _ h
          · cases h; exact ⟨_, rfl⟩
        · rw [m4, h]; simp
      by_cases hc0 : 0 < cntH (a.take i) x.ID
      · have h1 : (1 : Int) < (cntH (a.take i) x.ID : Int) + 1 := by omega
        have h2 : ¬ (cntH (a.take i) x.ID : Int) + 1 ≤ 1 := by omega
        simp [hlt, hx, hl, alook_aput, hG, h1, h2]
        exact ⟨by omega, by omega, i + 1, _, ⟨by simp, .inl rfl⟩, next (by simp [hc0]), by omega⟩
      · have h1 : cntH (a.take i) x.ID = 0 := by omega
        rw [h1] at next m4
        simp only [Nat.lt_irrefl, decide_false, Bool.false_or] at next m4
        cases hf : fstH b x.ID with
        | none =>
          have hk : chkH b x = false := by
            unfold fstH at hf
            simp only [chkH, hf]
          rw [hk] at m4
          simp [hlt, hx, hl, alook_aput, hG, h1, hf, m4]
        | some y =>
          have hk : chkH b x = decide (y.Bits = x.Bits) := by
            unfold fstH at hf
            simp only [chkH, hf]
          rw [hk] at m4 next
          by_cases hy : y.Bits = x.Bits
          · simp [hlt, hx, hl, alook_aput, hG, h1, hf, bitsAV, hy]
            exact ⟨by omega, i + 1, _, ⟨by simp, .inl rfl⟩, next (by simp [hy]), by omega⟩
          · have hy2 : ¬ y.Bits.toNat = x.Bits.toNat := fun e => hy (BitVec.eq_of_toNat_eq e)
            simp [hy] at m4
            simp [hlt, hx, hl, alook_aput, hG, h1, hf, bitsAV, hy, hy2, m4]
    · have hie : i = a.length := by omega
      subst hie
      rw [List.drop_length, handG_nil] at m4
      simp [m4]
def cHandsS : Ctr := C2 (fun a b : List Hand => a.length ≤ 1000 ∧ b.length ≤ 1000) fun a b => .bool (handG b [] a)
theorem known_HandsS : Known Try.prog 136 cHandsS := known_C2 (fun a b h => det_step_hands a b h.1 h.2) fun a b => flat_bool _
def peopleQ (p : Par) : Bool := handG p.B.Crew [] p.A.Crew && handG p.B.Units [] p.A.Units
theorem det_step_people (p : Par) (ha : shortS p.A) (hb : shortS p.B) : Det Try.prog 73 [en p] [] (.bool (peopleQ p)) [] := by
  refine det_finF mixed0 (knows_cons known_HandsS knows_nil) ok_step_pair_people 1 (by simp) ?_
  have h1 : p.A.Crew.length ≤ 1000 := by have := ha.c; omega
  have h2 : p.B.Crew.length ≤ 1000 := by have := hb.c; omega
  have h3 : p.A.Units.length ≤ 1000 := by have := ha.u; omega
  have h4 : p.B.Units.length ≤ 1000 := by have := hb.u; omega
  simp [ic_step_pair_people, rs_step_pair_people, cHandsS, h1, h2, h3, h4, vcLoose, heapsOf, peopleQ]
theorem known_peopleP : Known Try.prog 73 (cShort peopleQ) := known_C1 (fun p h => det_step_people p h.1 h.2) fun p => flat_bool _
/-! ### the rules, as closures over the pair -/
def cRule (q : Par → Bool) : Ctr := C1 (fun p : Bx Par => shortS p.v.A ∧ shortS p.v.B) fun p => .bool (q p.v)
theorem det_Breaks1 (p : Bx Par) : Det Try.prog 66 [en p] [] (.bool (risesB p.v)) [] := by
  refine det_finF mixed0 (knows_cons known_risesP knows_nil) ok_step_Breaks_1 1 (by simp) ?_
  simp [ic_step_Breaks_1, rs_step_Breaks_1, cRisesP]
theorem det_Breaks2 (p : Bx Par) (ha : shortS p.v.A) (hb : shortS p.v.B) : Det Try.prog 68 [en p] [] (.bool (tasksQ staysQ p.v)) [] := by
  refine det_finF mixed0 (knows_cons known_staysP knows_nil) ok_step_Breaks_2 1 (by simp) ?_
  simp [ic_step_Breaks_2, rs_step_Breaks_2, cShort, ha, hb]
theorem det_Breaks3 (p : Bx Par) (ha : shortS p.v.A) (hb : shortS p.v.B) : Det Try.prog 70 [en p] [] (.bool (tasksQ countsQ p.v)) [] := by
  refine det_finF mixed0 (knows_cons known_countsP knows_nil) ok_step_Breaks_3 1 (by simp) ?_
  simp [ic_step_Breaks_3, rs_step_Breaks_3, cShort, ha, hb]
theorem det_Breaks4 (p : Bx Par) (ha : shortS p.v.A) (hb : shortS p.v.B) : Det Try.prog 72 [en p] [] (.bool (peopleQ p.v)) [] := by
  refine det_finF mixed0 (knows_cons known_peopleP knows_nil) ok_step_Breaks_4 1 (by simp) ?_
  simp [ic_step_Breaks_4, rs_step_Breaks_4, cShort, ha, hb]
theorem det_Breaks5 (p : Bx Par) (ha : shortS p.v.A) (hb : shortS p.v.B) : Det Try.prog 74 [en p] [] (.bool (leasesQ p.v)) [] := by
  refine det_finF mixed0 (knows_cons known_leasesP knows_nil) ok_step_Breaks_5 1 (by simp) ?_
  simp [ic_step_Breaks_5, rs_step_Breaks_5, cShort, ha, hb]
theorem known_Breaks1 : Known Try.prog 66 (cRule risesB) := known_C1 (fun p h => det_Breaks1 p) fun p => flat_bool _
theorem known_Breaks2 : Known Try.prog 68 (cRule (tasksQ staysQ)) := known_C1 (fun p h => det_Breaks2 p h.1 h.2) fun p => flat_bool _
theorem known_Breaks3 : Known Try.prog 70 (cRule (tasksQ countsQ)) := known_C1 (fun p h => det_Breaks3 p h.1 h.2) fun p => flat_bool _
theorem known_Breaks4 : Known Try.prog 72 (cRule peopleQ) := known_C1 (fun p h => det_Breaks4 p h.1 h.2) fun p => flat_bool _
theorem known_Breaks5 : Known Try.prog 74 (cRule leasesQ) := known_C1 (fun p h => det_Breaks5 p h.1 h.2) fun p => flat_bool _
end Go.Proofs.Ytfjidignjjaihaa.Sx
