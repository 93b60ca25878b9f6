/- Package task: what is wanted, who fits, rules that are alike; the law of 22 that is always asked (alive). No conditions: a kit of our own. -/
import Derived.Test.YtfjidignjjaihaaFnP1
import Derived.Test.YtfjidignjjaihaaIrTa
import Derived.Test.YtfjidignjjaihaaTy2
namespace Go.Proofs.Ytfjidignjjaihaa.Sx
open Go Go.RowKit
set_option linter.unusedVariables false
set_option linter.unusedSimpArgs false

/-- All skills of the other one. -/
def hasW (a b : BitVec 64) : Bool := decide (b &&& ~~~a = 0#64)
theorem det_skill_Has (a b : BitVec 64) : Det Try.prog 56 [en a, en b] [] (.bool (hasW a b)) [] := by
  refine det_finF mixed0 knows_nil ok_skill_Has 1 (by simp) ?_
  simp [ic_skill_Has, rs_skill_Has, hasW]
  have ha := a.isLt
  have hb := b.isLt
  have e1 : b.toNat % 2 ^ IntKind.u64.bits = b.toNat := Nat.mod_eq_of_lt hb
  have e2 : a.toNat % 2 ^ IntKind.u64.bits = a.toNat := Nat.mod_eq_of_lt ha
  have e3 : IntKind.u64.bits = 64 := rfl
  have e4 : (b &&& ~~~a).toNat = b.toNat &&& (2 ^ 64 - 1 - a.toNat) := by rw [BitVec.toNat_and, BitVec.toNat_not]
  rw [e1, e2, e3, ← e4]
  have hw : ∀ n : Nat, n < 18446744073709551616 → IntKind.u64.wrap (n : Int) = n := fun n h => by
    simp [IntKind.wrap, IntKind.signed, IntKind.bits]; omega
  rw [hw _ (b &&& ~~~a).isLt]
  constructor
  · intro h; apply BitVec.eq_of_toNat_eq; simp at h ⊢; omega
  · intro h; rw [h]; rfl
def cHasW : Ctr := C2 (fun a b : BitVec 64 => True) fun a b => .bool (hasW a b)
theorem known_SkillHas : Known Try.prog 56 cHasW := known_C2 (fun a b _ => det_skill_Has a b) fun a b => flat_bool _
def fitsX (x : Spec) (w u : BitVec 64) : Bool := hasW w x.Skill && hasW u x.Gear
theorem det_task_Fits (x : Spec) (w u : BitVec 64) : Det Try.prog 20 [en x, en w, en u] [] (.bool (fitsX x w u)) [] := by
  refine det_finF mixed0 (knows_cons known_SkillHas knows_nil) ok_task_Fits 1 (by simp) ?_
  simp [ic_task_Fits, rs_task_Fits, cHasW, fitsX, vcLoose, heapsOf]
def cFitsX : Ctr := C3 (fun (x : Spec) (w u : BitVec 64) => True) fun x w u => .bool (fitsX x w u)
theorem known_TaskFits : Known Try.prog 20 cFitsX := known_C3 (fun x w u _ => det_task_Fits x w u) fun x w u => flat_bool _
theorem det_task_Want (r : Rul) (x : Spec) (hl : r.Aisles.length ≤ 1073741824) : Det Try.prog 18 [en r, en x] [] (en (crossL r.Aisles x.From x.To 0)) [] := by
  refine det_finF mixed0 (knows_cons known_Cross knows_nil) ok_task_Want 2 (by simp) ?_
  simp [ic_task_Want, rs_task_Want, cCross, hl]
def cWant : Ctr := V2 (fun (r : Rul) (x : Spec) => r.Aisles.length ≤ 1073741824) fun r x => en (crossL r.Aisles x.From x.To 0)
theorem known_Want : Known Try.prog 18 cWant := known_V2 (fun r x h => det_task_Want r x h) fun r x h => closed_en _
theorem det_EqAis (xs ys : List Ais) (hl : xs.length ≤ 9223372036854775807) : Det Try.prog 83 [en xs, en ys] [] (.bool (decide (xs = ys))) [] := by
  refine det_finF mixed0 knows_nil ok_slices_Equal_api_Aisle_api_Aisle 1 (by simp) ?_
  simp [ic_slices_Equal_api_Aisle_api_Aisle, rs_slices_Equal_api_Aisle_api_Aisle]
  refine ⟨fun h e => h (by rw [e]), fun hlen => ?_⟩
  refine LoopC.scanB Ais.zero xs (fun i (_ : Unit) => ⟨[(0, .view (xs.map Cel.c)), (1, .view (ys.map Cel.c)), (12, .int .i64 xs.length), (13, .int .i64 i)], []⟩) (fun i _ r => xs = ys ↔ r = ys.drop i) () (by simp) (by simp) (by simp) (fun i a r b hi ha hd hG => ?_) fun b hG => ?_
  · have hi' : i < ys.length := by omega
    have hy := drop_nth Ais.zero hi'
    rw [hy] at hG
    by_cases e : a = nth ys i Ais.zero
    · simp [hi, hi', ha, vcLoose, e]
      refine ⟨by omega, ?_⟩
      rw [hG, e]; simp
    · have e3 : ¬ xs = ys := fun h => by rw [hG] at h; simp at h; exact e h.1
      simp [hi, hi', ha, vcLoose, e3]
      rw [ext_Ais, ext_Pt, ext_Pt] at e
      grind
  · simp
    rw [hG, List.drop_of_length_le (by omega)]
def cEqAis : Ctr := C2 (fun xs ys : List Ais => xs.length ≤ 9223372036854775807) fun xs ys => .bool (decide (xs = ys))
theorem known_EqAis : Known Try.prog 83 cEqAis := known_C2 (fun l n h => det_EqAis l n h) fun l n => flat_bool _
def numsR (a : Rul) : AV := .agg [.int .i64 a.Tasks, .int .i64 a.Crew, .int .i64 a.Units, .int .i64 a.Lease, .int .i64 a.Tries, .int .i64 a.Rate, .int .i64 a.Start]
theorem closed_numsR (a : Rul) : Closed (numsR a) := .agg rfl fun i x b h1 h2 => by
  rw [h1] at h2; cases h2
  have := List.mem_of_getElem? h1
  simp at this
  rcases this with rfl | rfl | rfl | rfl | rfl | rfl | rfl <;> exact .int _ _
theorem det_task_numbers (a : Rul) : Det Try.prog 82 [en a] [] (numsR a) [] := by
  refine det_finF mixed0 knows_nil ok_task_numbers 2 (by simp) ?_
  simp [ic_task_numbers, rs_task_numbers, numsR]
def cNumsR : Ctr := V1 (fun a : Rul => True) numsR
theorem known_Numbers : Known Try.prog 82 cNumsR := known_V1 (fun a _ => det_task_numbers a) fun a _ => closed_numsR a
theorem det_task_SameRules (a b : Rul) (hl : a.Aisles.length ≤ 9223372036854775807) : Det Try.prog 24 [en a, en b] [] (.bool (decide (a = b))) [] := by
  refine det_finF mixed0 (knows_cons known_EqAis (knows_cons known_Numbers knows_nil)) ok_task_SameRules 1 (by simp) ?_
  simp [ic_task_SameRules, rs_task_SameRules, cEqAis, cNumsR, numsR, hl, vcLoose, heapsOf]
  rw [Bool.eq_iff_iff]
  simp [ext_Rul, and_assoc]
def cSameRules : Ctr := C2 (fun a b : Rul => a.Aisles.length ≤ 9223372036854775807) fun a b => .bool (decide (a = b))
theorem known_SameRules : Known Try.prog 24 cSameRules := known_C2 (fun a b h => det_task_SameRules a b h) fun a b => flat_bool _
theorem al1 : specErr ⟨3, 5, 1#64, 0#64, ⟨1, 0⟩, ⟨4, 0⟩, [2]⟩ = 0 := by decide
theorem al2 : specErr ⟨3, 5, 1#64, 0#64, ⟨1, 0⟩, ⟨4, 0⟩, [3]⟩ = 1 := by decide
theorem al3 : rulErr ⟨9, 2, 2, 5, 3, 0, 0, [⟨7, ⟨2, 0⟩, ⟨2, 0⟩⟩]⟩ = 0 := by decide
theorem al4 : crossL [⟨7, ⟨2, 0⟩, ⟨2, 0⟩⟩] ⟨1, 0⟩ ⟨4, 0⟩ 0 = [7] := by
  rw [crossL, show crossI [⟨7, ⟨2, 0⟩, ⟨2, 0⟩⟩] ⟨1, 0⟩ ⟨4, 0⟩ 0 = [7] by decide]
  simp [sorted, comp]
theorem al5 : fitsX ⟨3, 5, 1#64, 0#64, ⟨1, 0⟩, ⟨4, 0⟩, [2]⟩ 3#64 0#64 = true := by decide
theorem al6 : fitsX ⟨3, 5, 1#64, 0#64, ⟨1, 0⟩, ⟨4, 0⟩, [2]⟩ 2#64 0#64 = false := by decide
theorem det_l22_alive : Det Try.prog 16 [] [] (.bool true) [] := by
  refine det_finF mixed0 (knows_cons known_TaskCheck (knows_cons known_task_Rules (knows_cons known_Want (knows_cons known_Ints (knows_cons known_TaskFits (knows_cons known_TaskSame (knows_cons known_SameRules knows_nil))))))) ok_l22_alive 1 (by simp) ?_
  have w1 := closed_viewc [(2 : Int)]
  have w2 := closed_viewc [(3 : Int)]
  have w3 := closed_viewc [(⟨7, ⟨2, 0⟩, ⟨2, 0⟩⟩ : Ais)]
  simp at w3
  simp [ic_l22_alive, rs_l22_alive, cTaskCheck, cRules, cWant, cInts, cFitsX, cR22Same, cSameRules, vcLoose, heapsOf, w3, al1, al2, al3, al4, al5, al6]
def c22Alive : Ctr := C0 (.bool true)
theorem known_22alive : Known Try.prog 16 c22Alive := known_C0 det_l22_alive (.bool _)
end Go.Proofs.Ytfjidignjjaihaa.Sx
