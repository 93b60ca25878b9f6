/- Specs and commands (packages task and cmd, references 22 and 28): what their functions give. No conditions: a kit of our own. -/
import Derived.Test.YtphkdomiehboaaaFn2
import Derived.Test.YtphkdomiehboaaaTy7
namespace Go.Proofs.Ytphkdomiehboaaa.Sx
open Go Go.RowKit
set_option linter.unusedVariables false
set_option linter.unusedSimpArgs false

def plainOf (x : Spec) : Pln := ⟨x.ID, x.Prio, x.Skill, x.Gear, x.From, x.To⟩
theorem det_task_of (x : Spec) : Det Try.prog 98 [en x] [] (en (plainOf x)) [] := by
  refine det_finF mixed0 knows_nil ok_task_of 1 (by simp) ?_
  simp [ic_task_of, rs_task_of, plainOf]
def cTaskOf : Ctr := V1 (fun x : Spec => True) fun x => en (plainOf x)
theorem known_TaskOf : Known Try.prog 98 cTaskOf := known_V1 (fun x h => det_task_of x) fun x h => closed_en _
theorem det_task_Same (x y : Spec) (hx : x.After.length ≤ 9223372036854775807) : Det Try.prog 76 [en x, en y] [] (.bool (decide (x = y))) [] := by
  refine det_finF mixed0 (knows_cons known_TaskOf (knows_cons known_Equal knows_nil)) ok_task_Same 1 (by simp) ?_
  have hx' : x.After.length ≤ 9223372036854775807 := by omega
  simp [ic_task_Same, rs_task_Same, cTaskOf, plainOf, cInts, hx', vcLoose]
  rw [Bool.eq_iff_iff]
  simp [ext_Spec, ext_Pt, and_assoc]
theorem known_TaskSame : Known Try.prog 76 cR22Same := known_C2 (fun x y h => det_task_Same x y h) fun x y => flat_bool _
theorem det_task_Clone (x : Spec) (hx : x.After.length ≤ 1073741824) : Det Try.prog 79 [en x] [] (en x) [] := by
  refine det_finF mixed0 (knows_cons known_CloneI knows_nil) ok_task_Clone 1 (by simp) ?_
  simp [ic_task_Clone, rs_task_Clone, cCloneI, hx]
def cTaskClone : Ctr := V1 (fun x : Spec => x.After.length ≤ 1073741824) fun x => en x
theorem known_TaskClone : Known Try.prog 79 cTaskClone := known_V1 (fun x h => det_task_Clone x h) fun x h => closed_en _

abbrev fTaskSame : FuncId := 76
theorem det_EqSpecs (l k : List Spec) (g : FnC fTaskSame) (hl : l.length ≤ 9223372036854775807) (hx : ∀ x ∈ l, x.After.length ≤ 9223372036854775807) :
    Det Try.prog 75 [en l, en k, en g] [] (.bool (decide (l = k))) [] := by
  refine det_finF mixed0 (knows_cons known_TaskSame knows_nil) ok_slices_EqualFunc_api_Spec_api_Spec_api_Spec_api_Spec 1 (by simp) ?_
  simp [ic_slices_EqualFunc_api_Spec_api_Spec_api_Spec_api_Spec, rs_slices_EqualFunc_api_Spec_api_Spec_api_Spec_api_Spec, cR22Same]
  refine ⟨fun h e => h (by rw [e]), fun hlen => ?_⟩
  refine LoopC.scanB Spec.zero l (fun i (_ : Unit) => ⟨[(1, .view (k.map Cel.c)), (2, .fn fTaskSame [] []), (15, .view (l.map Cel.c)), (16, .int .i64 l.length), (17, .int .i64 i)], []⟩) (fun i _ r => (l = k ↔ r = k.drop i) ∧ ∀ x ∈ r, x.After.length ≤ 9223372036854775807) () (by simp) (by simp) ⟨by simp, hx⟩ (fun i a r b hi ha hd hG => ?_) fun b hG => ?_
  · obtain ⟨hG, hx⟩ := hG
    have hi' : i < k.length := by omega
    have hy := drop_nth Spec.zero hi'
    have hxa := hx a (by simp)
    rw [hy] at hG
    simp [hi, hi', ha, hxa]
    refine ⟨fun e => ?_, fun e => ⟨by omega, ?_, fun x hx' => hx x (by simp [hx'])⟩⟩
    · rw [hG]; simp; intro e'; exact absurd e' e
    · rw [hG, e]; simp
  · simp
    rw [hG.1, List.drop_of_length_le (by omega)]
def cEqSpecs : Ctr := C3 (fun (l k : List Spec) (g : FnC fTaskSame) => l.length ≤ 9223372036854775807 ∧ ∀ x ∈ l, x.After.length ≤ 9223372036854775807) fun l k _ => .bool (decide (l = k))
theorem known_EqSpecs : Known Try.prog 75 cEqSpecs := known_C3 (fun l k g h => det_EqSpecs l k g h.1 h.2) fun l k g => flat_bool _
theorem det_CloneS (l : List Spec) (hl : l.length ≤ 1073741824) : Det Try.prog 78 [en l] [] (ow 0 (l.map Cel.c)) [bob 9 (l.map Cel.c)] := by
  refine det_finO mixed0 knows_nil ok_slices_Clone_api_Spec_api_Spec (by simp) ?_
  simp [ic_slices_Clone_api_Spec_api_Spec, rs_slices_Clone_api_Spec_api_Spec, hl]
  rcases l with _ | ⟨x, l⟩
  · exact ⟨⟨[0], by simp [emp]⟩, fun _ => ⟨[0], by simp⟩⟩
  · exact ⟨⟨[1], by simp⟩, fun h => by cases h⟩
def cCloneS : Ctr := O1 (fun l : List Spec => l.length ≤ 1073741824) (fun l => ow 0 (l.map Cel.c)) fun l => [bob 9 (l.map Cel.c)]
theorem known_CloneS : Known Try.prog 78 cCloneS := known_O1 (fun l h => det_CloneS l h) fun l => by simp

theorem det_cmd_Clone (c : Cmd) (hl : c.Batch.length ≤ 1073741824) (hx : ∀ x ∈ c.Batch, x.After.length ≤ 1073741824) : Det Try.prog 45 [en c] [] (en c) [] := by
  refine det_finF mixed0 (knows_cons known_CloneS (knows_cons known_TaskClone knows_nil)) ok_cmd_Clone 3 (by simp) ?_
  simp [ic_cmd_Clone, rs_cmd_Clone, cCloneS, cTaskClone, hl]
  refine LoopC.scan Spec.zero c.Batch (fun i : Nat => ⟨[(1, .ptr 0 0 0), (2, .ptr 1 0 0), (10, ow 2 (c.Batch.map Cel.c)), (11, .int .i64 c.Batch.length), (12, .int .i64 i)],
    [.rows 4 [[.int .i64 c.Kind, .int .i64 c.ID, .int .u64 c.Bits.toNat, ow 2 (c.Batch.map Cel.c)]], .rows 4 [[.int .i64 0, .int .i64 0, .int .u64 0, .nils]], bob 9 (c.Batch.map Cel.c)]⟩) (fun r => ∀ x ∈ r, x.After.length ≤ 1073741824) (by simp) (by simp) hx (fun i a r hi ha hG => ?_) fun hG => ?_
  · have hne : c.Batch ≠ [] := by intro e; simp [e] at hi
    have hxa := hG a (by simp)
    have hs := set_row ha
    simp only [c_Spec] at hs
    simp [hi, ha, hne, hxa, vcLoose, bob_ne, ow_ne, hs]
    exact ⟨by omega, fun x hx => hG x (by simp [hx])⟩
  · simp
def cCmdClone : Ctr := V1 (fun c : Cmd => c.Batch.length ≤ 1073741824 ∧ ∀ x ∈ c.Batch, x.After.length ≤ 1073741824) fun c => en c
theorem known_CmdClone : Known Try.prog 45 cCmdClone := known_V1 (fun x h => det_cmd_Clone x h.1 h.2) fun x h => closed_en _
theorem det_cmd_Same (c d : Cmd) (hl : c.Batch.length ≤ 9223372036854775807) (hx : ∀ x ∈ c.Batch, x.After.length ≤ 9223372036854775807) : Det Try.prog 43 [en c, en d] [] (.bool (decide (c = d))) [] := by
  refine det_finF mixed0 (knows_cons known_EqSpecs knows_nil) ok_cmd_Same 1 (by simp) ?_
  simp [ic_cmd_Same, rs_cmd_Same, cEqSpecs, hl]
  refine ⟨fun h1 h2 h3 => hx, ?_⟩
  rw [Bool.eq_iff_iff]
  simp [ext_Cmd, and_assoc]
def cCmdSame : Ctr := C2 (fun c d : Cmd => c.Batch.length ≤ 9223372036854775807 ∧ ∀ x ∈ c.Batch, x.After.length ≤ 9223372036854775807) fun c d => .bool (decide (c = d))
theorem known_CmdSame : Known Try.prog 43 cCmdSame := known_C2 (fun x y h => det_cmd_Same x y h.1 h.2) fun x y => flat_bool _

/-- A kind's shape, and whether it is a kind. -/
def shapeOf (k : Int) : Shp × Bool :=
  if k = 1 then (⟨0, 0#64, true⟩, true) else if k = 3 ∨ k = 4 then (⟨999, 18446744073709551615#64, false⟩, true)
  else if k = 2 ∨ k = 5 ∨ k = 6 ∨ k = 7 ∨ k = 8 ∨ k = 12 then (⟨999, 0#64, false⟩, true) else if k = 9 ∨ k = 10 then (⟨2147483647, 0#64, false⟩, true)
  else if k = 13 then (⟨999, 1#64, false⟩, true) else if k = 11 ∨ k = 14 ∨ k = 15 then (⟨0, 0#64, false⟩, true) else (⟨0, 0#64, false⟩, false)
set_option maxHeartbeats 2000000 in
theorem det_shapes (k : Int) : Det Try.prog 71 [en k] [] (.tup [en (shapeOf k).1, en (shapeOf k).2]) [] := by
  refine det_finF mixed0 knows_nil ok_cmd_shapes 2 (by simp) ?_
  rcases (by omega : k = 1 ∨ k = 2 ∨ k = 3 ∨ k = 4 ∨ k = 5 ∨ k = 6 ∨ k = 7 ∨ k = 8 ∨ k = 9 ∨ k = 10 ∨ k = 11 ∨ k = 12 ∨ k = 13 ∨ k = 14 ∨ k = 15 ∨ k < 1 ∨ 15 < k) with rfl | rfl | rfl | rfl | rfl | rfl | rfl | rfl | rfl | rfl | rfl | rfl | rfl | rfl | rfl | h
  all_goals first
    | simp [ic_cmd_shapes, rs_cmd_shapes, shapeOf]; done
    | skip
  have h1 : ¬ k = 1 := by omega
  have h2 : ¬ k = 2 := by omega
  have h3 : ¬ k = 3 := by omega
  have h4 : ¬ k = 4 := by omega
  have h5 : ¬ k = 5 := by omega
  have h6 : ¬ k = 6 := by omega
  have h7 : ¬ k = 7 := by omega
  have h8 : ¬ k = 8 := by omega
  have h9 : ¬ k = 9 := by omega
  have h10 : ¬ k = 10 := by omega
  have h11 : ¬ k = 11 := by omega
  have h12 : ¬ k = 12 := by omega
  have h13 : ¬ k = 13 := by omega
  have h14 : ¬ k = 14 := by omega
  have h15 : ¬ k = 15 := by omega
  simp [ic_cmd_shapes, rs_cmd_shapes, shapeOf, h1, h2, h3, h4, h5, h6, h7, h8, h9, h10, h11, h12, h13, h14, h15]
def cShapes : Ctr := V1 (fun k : Int => True) fun k => .tup [en (shapeOf k).1, en (shapeOf k).2]
theorem closed_tup' {l : List AV} (h : ∀ a ∈ l, Closed a) : Closed (.tup l) := .tup rfl fun i a b h1 h2 => by rw [h1] at h2; cases h2; exact h a (List.mem_of_getElem? h1)
theorem known_Shapes : Known Try.prog 71 cShapes := known_V1 (fun k h => det_shapes k) fun k h => closed_tup' fun a ha => by
  simp only [List.mem_cons, List.not_mem_nil, or_false] at ha
  rcases ha with rfl | rfl <;> exact closed_en _
/-- What is wrong with a batch's specs first. -/
def batchErr : List Spec → Int
  | [] => 0
  | x :: l => if specErr x = 0 then batchErr l else specErr x
/-- What is wrong with a command first. -/
def cmdErr (c : Cmd) : Int :=
  if (shapeOf c.Kind).2 = false then 14
  else if ((shapeOf c.Kind).1.most = 0 ∧ c.ID ≠ 0) ∨ ((shapeOf c.Kind).1.bits = 0#64 ∧ c.Bits ≠ 0#64) ∨ ((shapeOf c.Kind).1.batch = false ∧ 0 < c.Batch.length) then 3
  else if (0 < (shapeOf c.Kind).1.most ∧ (c.ID < 1 ∨ (shapeOf c.Kind).1.most < c.ID)) ∨ (shapeOf c.Kind).1.bits.toNat < c.Bits.toNat then 2
  else if (shapeOf c.Kind).1.batch = true ∧ c.Batch.length = 0 then 1
  else if 64 < c.Batch.length then 15
  else batchErr c.Batch
end Go.Proofs.Ytphkdomiehboaaa.Sx
