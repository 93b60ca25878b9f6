/- Commands, by their checks: what the functions give. No conditions: a kit of our own. -/
import Derived.Test.YtoapfffakfmioaaFnA1
namespace Go.Proofs.Ytoapfffakfmioaa.Sx
open Go Go.RowKit
set_option linter.unusedVariables false
set_option linter.unusedSimpArgs false

def cCmdSame : Ctr := C2 (fun c d : Cmd => c.Batch.length ≤ 9223372036854775807 ∧ ∀ x ∈ c.Batch, x.After.length ≤ 9223372036854775807) fun c d => .bool (decide (c = d))
def shapeOf (k : Int) : Shp × Bool :=
  if k = 1 then (⟨0, 0#64, true⟩, true) else if k = 3 ∨ k = 4 then (⟨999, 18446744073709551615#64, false⟩, true)
  else if k = 2 ∨ k = 5 ∨ k = 6 ∨ k = 7 ∨ k = 8 ∨ k = 12 then (⟨999, 0#64, false⟩, true) else if k = 9 ∨ k = 10 then (⟨2147483647, 0#64, false⟩, true)
  else if k = 13 then (⟨999, 1#64, false⟩, true) else if k = 11 ∨ k = 14 ∨ k = 15 then (⟨0, 0#64, false⟩, true) else (⟨0, 0#64, false⟩, false)
set_option maxHeartbeats 2000000 in
theorem det_shapes (k : Int) : Det Try.prog 129 [en k] [] (.tup [en (shapeOf k).1, en (shapeOf k).2]) [] := by
  refine det_finF mixed0 knows_nil ok_cmd_shapes 2 (by simp) ?_
  rcases (by omega : k = 1 ∨ k = 2 ∨ k = 3 ∨ k = 4 ∨ k = 5 ∨ k = 6 ∨ k = 7 ∨ k = 8 ∨ k = 9 ∨ k = 10 ∨ k = 11 ∨ k = 12 ∨ k = 13 ∨ k = 14 ∨ k = 15 ∨ k < 1 ∨ 15 < k) with rfl | rfl | rfl | rfl | rfl | rfl | rfl | rfl | rfl | rfl | rfl | rfl | rfl | rfl | rfl | h
  all_goals first
    | simp [ic_cmd_shapes, rs_cmd_shapes, shapeOf]; done
    | skip
  have h1 : ¬ k = 1 := by omega
  have h2 : ¬ k = 2 := by omega
  have h3 : ¬ k = 3 := by omega
  have h4 : ¬ k = 4 := by omega
  have h5 : ¬ k = 5 := by omega
  have h6 : ¬ k = 6 := by omega
  have h7 : ¬ k = 7 := by omega
  have h8 : ¬ k = 8 := by omega
  have h9 : ¬ k = 9 := by omega
  have h10 : ¬ k = 10 := by omega
  have h11 : ¬ k = 11 := by omega
  have h12 : ¬ k = 12 := by omega
  have h13 : ¬ k = 13 := by omega
  have h14 : ¬ k = 14 := by omega
  have h15 : ¬ k = 15 := by omega
  simp [ic_cmd_shapes, rs_cmd_shapes, shapeOf, h1, h2, h3, h4, h5, h6, h7, h8, h9, h10, h11, h12, h13, h14, h15]
def cShapes : Ctr := V1 (fun k : Int => True) fun k => .tup [en (shapeOf k).1, en (shapeOf k).2]
theorem closed_tup' {l : List AV} (h : ∀ a ∈ l, Closed a) : Closed (.tup l) := .tup rfl fun i a b h1 h2 => by rw [h1] at h2; cases h2; exact h a (List.mem_of_getElem? h1)
theorem known_Shapes : Known Try.prog 129 cShapes := known_V1 (fun k h => det_shapes k) fun k h => closed_tup' fun a ha => by
  simp only [List.mem_cons, List.not_mem_nil, or_false] at ha
  rcases ha with rfl | rfl <;> exact closed_en _
/-- What is wrong with a batch's specs first. -/
def batchErr : List Spec → Int
  | [] => 0
  | x :: l => if specErr x = 0 then batchErr l else specErr x
/-- What is wrong with a command first. -/
def cmdErr (c : Cmd) : Int :=
  if (shapeOf c.Kind).2 = false then 14
  else if ((shapeOf c.Kind).1.most = 0 ∧ c.ID ≠ 0) ∨ ((shapeOf c.Kind).1.bits = 0#64 ∧ c.Bits ≠ 0#64) ∨ ((shapeOf c.Kind).1.batch = false ∧ 0 < c.Batch.length) then 3
  else if (0 < (shapeOf c.Kind).1.most ∧ (c.ID < 1 ∨ (shapeOf c.Kind).1.most < c.ID)) ∨ (shapeOf c.Kind).1.bits.toNat < c.Bits.toNat then 2
  else if (shapeOf c.Kind).1.batch = true ∧ c.Batch.length = 0 then 1
  else if 64 < c.Batch.length then 15
  else batchErr c.Batch
set_option maxHeartbeats 2000000 in
theorem det_cmd_Check (c : Cmd) (hl : c.Batch.length ≤ 1073741824) (hx : ∀ x ∈ c.Batch, x.After.length ≤ 1073741824) : Det Try.prog 60 [en c] [] (.int .i64 (cmdErr c)) [] := by
  refine det_finF mixed0 (knows_cons known_Shapes (knows_cons known_TaskCheck knows_nil)) ok_cmd_Check 1 (by simp) ?_
  simp [ic_cmd_Check, rs_cmd_Check]
  refine BackC.scanB Spec.zero c.Batch (fun i (_ : Unit) => ⟨[(1, .ptr 0 0 0), (5, .int .i64 i)], [.rows 4 [Cel.c c]]⟩) (fun _ _ r => cmdErr c = batchErr r ∧ ∀ x ∈ r, x.After.length ≤ 1073741824) (by simp) ?_ (fun i a r b hi ha hd hG => ?_) fun b hG => ?_
  · have he : cmdErr c = cmdErr c := rfl
    conv at he => rhs; unfold cmdErr
    simp [cShapes]
    generalize (shapeOf c.Kind) = s at he ⊢
    obtain ⟨⟨most, bits, batch⟩, is⟩ := s
    generalize cmdErr c = T at he ⊢
    have hb : bits.toNat = 0 ↔ bits = 0#64 := by rw [← BitVec.toNat_inj]; rfl
    have hc : c.Bits.toNat = 0 ↔ c.Bits = 0#64 := by rw [← BitVec.toNat_inj]; rfl
    have hn : c.Batch = [] ↔ c.Batch.length = 0 := List.length_eq_zero_iff.symm
    cases is
    · simp at he ⊢
      exact he.symm
    · simp
      refine JoinC.by' (fun s' => s' = ⟨[(1, .ptr 0 0 0), (3, .ptr 1 0 0), (16, .bool (decide ((most = 0 ∧ c.ID ≠ 0) ∨ (bits = 0#64 ∧ c.Bits ≠ 0#64) ∨ (batch = false ∧ 0 < c.Batch.length))))], [.rows 4 [Cel.c c], .rows 3 [[.int .i64 most, .int .u64 bits.toNat, .bool batch]]]⟩) ?_ ?_
      · simp [hb, hc]
        grind
      · rintro _ rfl
        simp
        constructor
        · simp at he
          grind
        · intro h1 h2 h3
          refine JoinC.by' (fun s' => s' = ⟨[(1, .ptr 0 0 0), (3, .ptr 1 0 0), (42, .bool (decide ((0 < most ∧ (c.ID < 1 ∨ most < c.ID)) ∨ bits.toNat < c.Bits.toNat)))], [.rows 4 [Cel.c c], .rows 3 [[.int .i64 most, .int .u64 bits.toNat, .bool batch]]]⟩) ?_ ?_
          · simp
            grind
          · rintro _ rfl
            simp at he ⊢
            grind
  · have : ¬ i = c.Batch.length := by omega
    simp [hi, ha, cTaskCheck, this, hG.2 a (by simp), hG.1, batchErr]
    exact ⟨fun h1 h2 => absurd h2 h1, fun h => ⟨by omega, fun h1 => absurd h h1, fun x hx => hG.2 x (by simp [hx])⟩⟩
  · simp [hG.1, batchErr]
def cCmdCheck : Ctr := C1 (fun c : Cmd => c.Batch.length ≤ 1073741824 ∧ ∀ x ∈ c.Batch, x.After.length ≤ 1073741824) fun c => .int .i64 (cmdErr c)
theorem known_CmdCheck : Known Try.prog 60 cCmdCheck := known_C1 (fun x h => det_cmd_Check x h.1 h.2) fun x => flat_int _ _

def hasID (k : Int) : Bool := decide (k = 2) || (decide (3 ≤ k) && decide (k ≤ 10)) || decide (k = 12) || decide (k = 13)
def hasBits (k : Int) : Bool := decide (k = 3) || decide (k = 4) || decide (k = 13)
theorem det_HasID (k : Int) : Det Try.prog 63 [en k] [] (.bool (hasID k)) [] := by
  refine det_finF mixed0 knows_nil ok_r28_HasID 1 (by simp) ?_
  simp [ic_r28_HasID, rs_r28_HasID, hasID]
  grind
def cHasID : Ctr := C1 (fun k : Int => True) fun k => .bool (hasID k)
theorem known_HasID : Known Try.prog 63 cHasID := known_C1 (fun x h => det_HasID x) fun x => flat_bool _
theorem det_HasBits (k : Int) : Det Try.prog 65 [en k] [] (.bool (hasBits k)) [] := by
  refine det_finF mixed0 knows_nil ok_r28_HasBits 1 (by simp) ?_
  simp [ic_r28_HasBits, rs_r28_HasBits]
  simp [hasBits]
def cHasBits : Ctr := C1 (fun k : Int => True) fun k => .bool (hasBits k)
theorem known_HasBits : Known Try.prog 65 cHasBits := known_C1 (fun x h => det_HasBits x) fun x => flat_bool _
/-- The reference's words for the same. -/
theorem cmdErr_ref (c : Cmd) : cmdErr c =
    if c.Kind < 1 ∨ 15 < c.Kind then 14
    else if (hasID c.Kind = false ∧ c.ID ≠ 0) ∨ (hasBits c.Kind = false ∧ c.Bits ≠ 0#64) ∨ (c.Kind ≠ 1 ∧ 0 < c.Batch.length) then 3
    else if (hasID c.Kind = true ∧ (c.ID < 1 ∨ (if c.Kind = 9 ∨ c.Kind = 10 then 2147483647 else 999) < c.ID)) ∨ (c.Kind = 13 ∧ 1 < c.Bits.toNat) then 2
    else if c.Kind ≠ 1 then 0 else if c.Batch.length = 0 then 1 else if 64 < c.Batch.length then 15 else batchErr c.Batch := by
  have hb : c.Bits.toNat < 18446744073709551616 := c.Bits.isLt
  have hb0 : c.Bits.toNat = 0 ↔ c.Bits = 0#64 := by rw [← BitVec.toNat_inj]; rfl
  have hn : c.Batch.length = 0 ↔ c.Batch = [] := List.length_eq_zero_iff
  unfold cmdErr
  by_cases h : c.Kind < 1 ∨ 15 < c.Kind
  · rw [if_pos h, if_pos]
    simp only [shapeOf]
    repeat' split
    all_goals first | rfl | omega
  · rw [if_neg h]
    have hk : c.Kind = 1 ∨ c.Kind = 2 ∨ c.Kind = 3 ∨ c.Kind = 4 ∨ c.Kind = 5 ∨ c.Kind = 6 ∨ c.Kind = 7 ∨ c.Kind = 8 ∨ c.Kind = 9 ∨ c.Kind = 10 ∨ c.Kind = 11 ∨ c.Kind = 12 ∨ c.Kind = 13 ∨ c.Kind = 14 ∨ c.Kind = 15 := by omega
    have hbe : c.Batch = [] → batchErr c.Batch = 0 := fun e => by rw [e]; rfl
    rcases hk with hk | hk | hk | hk | hk | hk | hk | hk | hk | hk | hk | hk | hk | hk | hk <;> simp [hk, shapeOf, hasID, hasBits] <;> grind

theorem batchErr_small : ∀ {l : List Spec}, batchErr l = 0 ↔ ∀ x ∈ l, specErr x = 0
  | [] => by simp [batchErr]
  | x :: l => by
    simp only [batchErr, List.mem_cons, forall_eq_or_imp]
    split
    · rename_i h; rw [batchErr_small (l := l)]; simp [h]
    · rename_i h; simp [h]
theorem det_r28_Check (c : Cmd) (hl : c.Batch.length ≤ 1073741824) (hx : ∀ x ∈ c.Batch, x.After.length ≤ 1073741824) : Det Try.prog 19 [en c] [] (.int .i64 (cmdErr c)) [] := by
  refine det_finF mixed0 (knows_cons known_HasID (knows_cons known_HasBits (knows_cons known_R22Check knows_nil))) ok_r28_Check 1 (by simp) ?_
  have he := cmdErr_ref c
  generalize cmdErr c = T at he ⊢
  have hc : c.Bits.toNat = 0 ↔ c.Bits = 0#64 := by rw [← BitVec.toNat_inj]; rfl
  have hn : c.Batch = [] ↔ c.Batch.length = 0 := List.length_eq_zero_iff.symm
  simp [ic_r28_Check, rs_r28_Check, cHasID, cHasBits, cSpecErr, hc]
  refine ⟨by grind, fun k1 k2 => ⟨by grind, by grind, by grind, fun h1 h2 h3 => ?_⟩⟩
  generalize hm : (if c.Kind = 9 ∨ c.Kind = 10 then (2147483647 : Int) else 999) = most at he
  refine JoinC.by' (fun s' => s' = ⟨[(1, .ptr 0 0 0), (3, .int .i64 most)], [.rows 4 [Cel.c c]]⟩) ?_ ?_
  · simp
    grind
  · rintro _ rfl
    simp
    refine ⟨by grind, by grind, fun k3 k4 => ⟨by grind, fun k5 => ⟨by grind, fun k6 => ⟨by grind, fun k7 => ?_⟩⟩⟩⟩
    have hT : T = batchErr c.Batch := by grind
    refine LoopC.scan Spec.zero c.Batch (fun i : Nat => ⟨[(1, .ptr 0 0 0), (4, .int .i64 i)], [.rows 4 [Cel.c c]]⟩) (fun r => T = batchErr r ∧ ∀ x ∈ r, x.After.length ≤ 1073741824) (by simp) (by simp) ⟨hT, hx⟩ (fun i a r hi ha hG => ?_) fun hG => ?_
    · have ha' := hG.2 a (by simp)
      simp [hi, ha, hG.1, batchErr]
      exact ⟨by omega, fun h1 h2 => absurd h2 h1, fun h => ⟨by omega, fun h1 => absurd h h1, fun x hx => hG.2 x (by simp [hx])⟩⟩
    · simp [hG.1, batchErr]
theorem known_R28Check : Known Try.prog 19 cCmdCheck := known_C1 (fun x h => det_r28_Check x h.1 h.2) fun x => flat_int _ _
theorem det_r28_Same (c d : Cmd) (hl : c.Batch.length ≤ 9223372036854775807) (hx : ∀ x ∈ c.Batch, x.After.length ≤ 9223372036854775807) : Det Try.prog 18 [en c, en d] [] (.bool (decide (c = d))) [] := by
  refine det_finF mixed0 (knows_cons known_R22Specs knows_nil) ok_r28_Same 1 (by simp) ?_
  simp [ic_r28_Same, rs_r28_Same, cR22Specs, hl]
  refine ⟨fun h1 h2 h3 => hx, ?_⟩
  rw [Bool.eq_iff_iff]
  simp [ext_Cmd, and_assoc]
theorem known_R28Same : Known Try.prog 18 cCmdSame := known_C2 (fun x y h => det_r28_Same x y h.1 h.2) fun x y => flat_bool _
def fewSpecs (l : List Spec) : Bool := decide ((l.length : Int) ≤ 70) && l.all fun x => decide (x.After.length ≤ 20)
theorem det_r28_Few (l : List Cmd) (m : Int) (hl : l.length ≤ 9223372036854775807) (hx : ∀ c ∈ l, c.Batch.length ≤ 9223372036854775807) : Det Try.prog 11 [en l, en m] [] (.bool (decide ((l.length : Int) ≤ m) && l.all fun c => fewSpecs c.Batch)) [] := by
  refine det_finF mixed0 (knows_cons known_R22Few knows_nil) ok_r28_Few 1 (by simp) ?_
  simp [ic_r28_Few, rs_r28_Few, cR22Few]
  refine ⟨fun h => by omega, fun h => ?_⟩
  refine LoopC.scan Cmd.zero l (fun i : Nat => ⟨[(0, .view (l.map Cel.c)), (5, .int .i64 i)], []⟩) (fun r => (l.all fun c => fewSpecs c.Batch) = (r.all fun c => fewSpecs c.Batch) ∧ ∀ c ∈ r, c.Batch.length ≤ 9223372036854775807) (by simp) (by simp) ⟨rfl, hx⟩ (fun i a r hi ha hG => ?_) fun hG => ?_
  · obtain ⟨h1, h2⟩ := hG
    have ha' := h2 a (by simp)
    simp [hi, ha, h, ha']
    refine ⟨fun hh => ?_, fun k1 k2 => ⟨by omega, ?_, fun c hc => h2 c (by simp [hc])⟩⟩
    · have : fewSpecs a.Batch = false := by simp [fewSpecs]; grind
      have hf : (l.all fun c => fewSpecs c.Batch) = false := by rw [h1]; simp [this]
      simpa using hf
    · have : fewSpecs a.Batch = true := by simp [fewSpecs]; grind
      rw [h1]; simp [this]
  · simp [hG.1, h]
def cR28Few : Ctr := C2 (fun (l : List Cmd) (m : Int) => l.length ≤ 9223372036854775807 ∧ ∀ c ∈ l, c.Batch.length ≤ 9223372036854775807) fun l m => .bool (decide ((l.length : Int) ≤ m) && l.all fun c => fewSpecs c.Batch)
theorem known_R28Few : Known Try.prog 11 cR28Few := known_C2 (fun x y h => det_r28_Few x y h.1 h.2) fun x y => flat_bool _
end Go.Proofs.Ytoapfffakfmioaa.Sx
