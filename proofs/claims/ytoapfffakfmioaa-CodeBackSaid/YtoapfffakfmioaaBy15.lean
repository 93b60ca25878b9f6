/- The statement CodeBack: what the law's function gives. No conditions: a kit of our own. -/
import Derived.Test.YtoapfffakfmioaaBy14
namespace Go.Proofs.Ytoapfffakfmioaa.Sx
open Go Go.RowKit
set_option linter.unusedVariables false
set_option linter.unusedSimpArgs false

/-! ### a pure function; memory of one's own that it is handed is not one's own afterwards ('J') -/
def fzB : AV → Bool
  | .sl .. => false
  | _ => true
@[simp] theorem fzB_sl (a b c : Nat) : fzB (.sl a b c) = false := rfl
@[simp] theorem fzB_view (l : List (List AV)) : fzB (.view l) = true := rfl
@[simp] theorem fzB_nils : fzB .nils = true := rfl
def J1 {α0 : Type} [Cel α0] (pre : α0 → Prop) (F : α0 → AV) : Ctr := ⟨fun a H => match a with
  | [a0] => (fzB a0 = true → okA α0 [] a0 ∧ pre (de α0 [] a0)) ∧ (fzB a0 = false → okA α0 H a0 ∧ pre (de α0 H a0))
  | _ => False, fun a H => match a with
  | [a0] => if fzB a0 then F (de α0 [] a0) else F (de α0 H a0)
  | _ => .any, fun a H => match a with
  | [a0] => if fzB a0 then H else alld H
  | _ => H⟩
@[simp] theorem J1_pre {α0 : Type} [Cel α0] (pre : α0 → Prop) (F : α0 → AV) (a0 : AV) (H : List AObj) : (J1 pre F).pre [a0] H = ((fzB a0 = true → okA α0 [] a0 ∧ pre (de α0 [] a0)) ∧ (fzB a0 = false → okA α0 H a0 ∧ pre (de α0 H a0))) := rfl
@[simp] theorem J1_val {α0 : Type} [Cel α0] (pre : α0 → Prop) (F : α0 → AV) (a0 : AV) (H : List AObj) : (J1 pre F).val [a0] H = if fzB a0 then F (de α0 [] a0) else F (de α0 H a0) := rfl
@[simp] theorem J1_hp {α0 : Type} [Cel α0] (pre : α0 → Prop) (F : α0 → AV) (a0 : AV) (H : List AObj) : (J1 pre F).hp [a0] H = if fzB a0 then H else alld H := rfl
theorem known_J1 {P : Program} {f : FuncId} {α0 : Type} [Cel α0] {pre : α0 → Prop} {F : α0 → AV} (h : ∀ x0, pre x0 → Det P f [en x0] [] (F x0) []) (hc : ∀ x0, pre x0 → Closed (F x0)) : Known P f (J1 pre F) := fun args H hp0 => by
  match args, hp0 with
  | [a0], hp0 =>
    obtain ⟨h1, h2⟩ := hp0
    cases hb : fzB a0
    · obtain ⟨h3, h4⟩ := h2 hb
      have := known_K1 h hc [a0] H ⟨h3, h4⟩
      simpa [J1, hb, K1] using this
    · obtain ⟨h3, h4⟩ := h1 hb
      have := known_V1 h hc [a0] H ⟨h3, h4⟩
      simpa [J1, hb, V1] using this
def jDecode : Ctr := J1 (fun b : List (BitVec 8) => b.length ≤ 1000000000) decV
theorem known_JDecode : Known Try.prog 15 jDecode := known_J1 det_Decode fun b _ => closed_decV b

theorem small_pt {r : Rdr} : smallPt (pointV r) := ⟨unzig_i64 _, unzig_i64 _⟩
theorem specV_ok (r : Rdr) : okSpec (specV r) := by
  have h8 := specV_after r
  refine ⟨by omega, ?_, ?_⟩ <;> (unfold specV; split)
  · exact ⟨⟨by decide, by decide⟩, ⟨by decide, by decide⟩⟩
  · exact small_pt
  · exact ⟨⟨by decide, by decide⟩, ⟨by decide, by decide⟩⟩
  · exact small_pt
theorem takesS_ok : ∀ (n : Nat) (r : Rdr) (acc : List Spec), (∀ x ∈ acc, okSpec x) → ∀ x ∈ (takesS n r acc).2, okSpec x
  | 0, r, acc, h => h
  | n + 1, r, acc, h => by
    unfold takesS; split
    · exact h
    · refine takesS_ok n _ _ fun x hx => ?_
      rcases List.mem_append.1 hx with hx | hx
      · exact h x hx
      · simp at hx; subst hx; exact specV_ok r
theorem okCmd_dec : ∀ b : List (BitVec 8), okCmd (decP b).1 := fun b => by
  obtain ⟨h1, _⟩ := decP_small b
  refine ⟨by omega, ?_⟩
  clear h1
  cases b with
  | nil => simp [decP, Cmd.zero]
  | cons x l =>
    simp only [decP]
    split
    · simp [Cmd.zero]
    · unfold decR
      split
      · simp [Cmd.zero]
      · split
        · simp [Cmd.zero]
        · split
          · simp [Cmd.zero]
          · show ∀ y ∈ (cmdT _ _).2, okSpec y
            unfold cmdT takeB
            split
            · exact takesS_ok _ _ _ (by simp)
            · simp
theorem specsB_len : ∀ {l : List Spec}, (∀ x ∈ l, okSpec x) → (specsB l).length ≤ 2000 * l.length
  | [], h => by simp [specsB_nil]
  | x :: l, h => by
    have h1 := specNums_len x
    have h2 := (h x (by simp)).1
    have h3 := specsB_len (l := l) fun y hy => h y (by simp [hy])
    rw [specsB_cons, List.length_append, List.length_cons]; omega
theorem cmdB_len {c : Cmd} (h : okCmd c) : (cmdB c).length ≤ 3000000 := by
  have h1 := varB_le (u64 c.ID)
  have h2 := varB_le c.Bits
  have h3 := varB_le (u64 (c.Batch.length : Int))
  have h4 := specsB_len h.2
  have h5 := h.1
  unfold cmdB
  simp only [List.length_cons, List.length_append]
  split <;> split <;> split <;> simp only [List.length_append, List.length_nil] <;> omega
theorem encB_len {c : Cmd} (h : okCmd c) : (encB c).length ≤ 3000000 := by
  unfold encB; split
  · simp
  · exact cmdB_len h
theorem fitS_of {x : Spec} (h : specErr x = 0) : fitS x := by
  unfold specErr at h
  split at h
  · cases h
  · rename_i h1
    split at h
    · cases h
    · rename_i h2
      simp [idOk, small] at h1 h2
      refine ⟨⟨by omega, by omega⟩, ⟨by omega, by omega⟩, ⟨⟨by omega, by omega⟩, ⟨by omega, by omega⟩⟩, ⟨⟨by omega, by omega⟩, ⟨by omega, by omega⟩⟩, by omega, fun n hn => ?_⟩
      have := h2.2 n hn
      omega
theorem fitC_of {c : Cmd} (h : cmdErr c = 0) : fitC c := by
  rw [cmdErr_ref] at h
  have hs : batchErr c.Batch = 0 → ∀ x ∈ c.Batch, fitS x := fun e x hx => fitS_of (batchErr_small.1 e x hx)
  have hn : c.Batch = [] ↔ c.Batch.length = 0 := List.length_eq_zero_iff.symm
  have h9 : c.Batch = [] → batchErr c.Batch = 0 := fun e => by rw [e]; rfl
  unfold fitC
  generalize batchErr c.Batch = be at *
  by_cases hk : c.Kind < 1 ∨ 15 < c.Kind
  · rw [if_pos hk] at h; cases h
  · rw [if_neg hk] at h
    have p1 : ¬ ((hasID c.Kind = false ∧ c.ID ≠ 0) ∨ (hasBits c.Kind = false ∧ c.Bits ≠ 0#64) ∨ (c.Kind ≠ 1 ∧ 0 < c.Batch.length)) := fun hh => by rw [if_pos hh] at h; cases h
    rw [if_neg p1] at h
    have p2 : ¬ ((hasID c.Kind = true ∧ (c.ID < 1 ∨ (if c.Kind = 9 ∨ c.Kind = 10 then 2147483647 else 999) < c.ID)) ∨ (c.Kind = 13 ∧ 1 < c.Bits.toNat)) := fun hh => by rw [if_pos hh] at h; cases h
    rw [if_neg p2] at h
    have hm : (if c.Kind = 9 ∨ c.Kind = 10 then (2147483647 : Int) else 999) ≤ 2147483647 := by split <;> omega
    generalize (if c.Kind = 9 ∨ c.Kind = 10 then (2147483647 : Int) else 999) = mx at *
    refine ⟨?_, ?_, ?_, ?_, ?_⟩
    · cases hi : hasID c.Kind
      · simp; grind
      · simp; grind
    · intro hb; grind
    · intro h1; grind
    · by_cases h1 : c.Kind = 1
      · grind
      · have : c.Batch = [] := by grind
        rw [this]; simp
    · by_cases h1 : c.Kind = 1
      · exact hs (by grind)
      · have : c.Batch = [] := by grind
        rw [this]; simp
set_option maxRecDepth 10000 in
set_option maxHeartbeats 4000000 in
theorem det_CodeBack (c : Cmd) (wc : Rd.wf c) (b : List (BitVec 8)) (wb : Rd.wf b) (k : BitVec 16) (wk : Rd.wf k) : Det Try.prog 4 [en c, en b, en k] [] (.bool true) [] := by
  refine det_finF mixed0 (knows_cons known_Alive29 (knows_cons known_R28Few (knows_cons known_Encode (knows_cons known_JDecode (knows_cons known_SameB (knows_cons known_R28Same (knows_cons known_R28Check knows_nil))))))) ok_l29_CodeBack 1 (by simp) ?_
  simp at wc wb
  simp [ic_l29_CodeBack, rs_l29_CodeBack, wrap_u8', cAlive29, cR28Few, cEncode, jDecode, encV, decV, cSameB, cCmdSame, cCmdCheck, vcLoose, heapsOf]
  refine ⟨wc.2.2.1, fun hf hb => ?_⟩
  have ho : okCmd c := by
    obtain ⟨k1, k2⟩ := few29 hf
    exact ⟨by omega, fun x hx => ⟨by have := k2 x hx; omega, (wc.2.2.2 x hx).2.2.1, (wc.2.2.2 x hx).2.2.2.1⟩⟩
  have hlen := encB_len ho
  have hs := decP_small (encB c)
  have hk := k.isLt
  have hnz : ¬ cmdErr c = 0 → encB c = [] := fun h => by simp [encB, h]
  have hz1 : cmdErr c = 0 → decP (encB c) = (c, 0) := fun he => enc_dec (cmdErr_kind he).1 (cmdErr_kind he).2 (fitC_of he) he
  have hne : cmdErr c = 0 → encB c ≠ [] := fun he => by simp [encB, he, cmdB]
  have hc := ok_check ho
  have hcut : cmdErr c = 0 → ∀ n, n < (encB c).length → (decP ((encB c).take n)).2 = 4 := fun he n hn => enc_cut (cmdErr_kind he).1 (cmdErr_kind he).2 (fitC_of he) he n hn
  have hlong : cmdErr c = 0 → ∀ y, (decP (encB c ++ [y])).2 = 3 := fun he y => enc_long (cmdErr_kind he).1 (cmdErr_kind he).2 (fitC_of he) he y
  refine ⟨by omega, fun hd => ⟨okCmd_dec b, dec_enc hd, fun _ _ => ⟨ho, fun he => ⟨fun _ => hc, hnz he, he⟩, fun he => ?_⟩⟩, fun hd => ⟨ho, fun he => ⟨fun _ => hc, hnz he, he⟩, fun he => ?_⟩⟩
  all_goals
    have hL : 0 < (encB c).length := List.length_pos_iff.2 (hne he)
    have ht : (k.toNat : Int).tmod ((encB c).length : Int) = ((k.toNat % (encB c).length : Nat) : Int) := by
      rw [Int.tmod_eq_emod_of_nonneg (by omega)]; rfl
    have hml := Nat.mod_lt k.toNat hL
    simp only [ht, Int.toNat_natCast]
    refine ⟨by omega, fun _ => ⟨by omega, fun x hx => by have := hs.2 x hx; omega⟩, ⟨⟨by rw [hz1 he], by rw [hz1 he]⟩, hne he⟩, fun _ _ _ => ⟨by omega, hne he, ⟨by omega, by omega⟩, ⟨fun r hr => ?_, by omega⟩, by omega, by omega, ⟨fun row hr => ?_, by omega⟩, hcut he _ hml, hlong he _⟩⟩
    · obtain ⟨y, _, rfl⟩ := List.mem_map.1 (List.mem_of_mem_take hr)
      exact Cel.ok_c _ y
    · rcases hr with ⟨a, _, rfl⟩ | rfl
      · exact Cel.ok_c _ a
      · exact Cel.ok_c _ (kb k.toNat)
end Go.Proofs.Ytoapfffakfmioaa.Sx
