/- Specs as bytes (package code, reference 29). No conditions: a kit of our own. -/
import Derived.Test.YtnckibgcjgeekaaGreatBy3
import Derived.Test.YtnckibgcjgeekaaGreatFnB1
namespace Go.Proofs.YtnckibgcjgeekaaGreat.Sx
open Go Go.RowKit
set_option linter.unusedVariables false
set_option linter.unusedSimpArgs false

theorem varB_len (k : Nat) : ∀ w, w < 2 ^ (7 * (k + 1)) → (varB w).length ≤ k + 1 := by
  induction k with
  | zero => intro w h; rw [varB_lt (by omega)]; simp
  | succ k ih =>
    intro w h
    by_cases hw : w < 128
    · rw [varB_lt hw]; simp
    · rw [varB_ge hw]
      have : 2 ^ (7 * (k + 1 + 1)) = 2 ^ (7 * (k + 1)) * 128 := by rw [Nat.mul_add, Nat.pow_add]
      have := ih (w / 128) (by omega)
      simp; omega
theorem varB_le (w : BitVec 64) : (varB w.toNat).length ≤ 10 := varB_len 9 _ (by have := w.isLt; omega)
/-- Numbers' short forms. -/
def vars (ws : List (BitVec 64)) : List (BitVec 8) := ws.flatMap fun w => varB w.toNat
theorem vars_nil : vars [] = [] := rfl
theorem vars_cons (w : BitVec 64) (ws : List (BitVec 64)) : vars (w :: ws) = varB w.toNat ++ vars ws := rfl
theorem vars_app (ws vs : List (BitVec 64)) : vars (ws ++ vs) = vars ws ++ vars vs := by simp [vars]
theorem vars_len (ws : List (BitVec 64)) : (vars ws).length ≤ 10 * ws.length := by
  induction ws with
  | nil => simp [vars_nil]
  | cons w ws ih => have := varB_le w; simp [vars_cons]; omega

theorem det_put (b : List (BitVec 8)) (ws : List (BitVec 64)) (h : b.length + 10 * ws.length ≤ 1000000000) : Det Tryz.prog 60 [en b, en ws] [] (en (b ++ vars ws)) [] := by
  refine det_finF mixed0 (knows_cons known_CloneB (knows_cons known_Var knows_nil)) ok_code_put 1 (by simp) ?_
  simp [-List.map_append, ic_code_put, rs_code_put, cCloneB, cVar]
  refine ⟨by omega, ?_⟩
  refine LoopC.scanB 0#64 ws (fun i (acc : List (BitVec 8)) => ⟨[(5, .view (acc.map Cel.c)), (10, .view (ws.map Cel.c)), (11, .int .i64 ws.length), (12, .int .i64 i)], []⟩) (fun i acc r => b ++ vars ws = acc ++ vars r ∧ acc.length + 10 * r.length ≤ 1000000000) b (by simp) (by simp) ⟨rfl, h⟩ (fun i a r acc hi ha hd ⟨h1, h2⟩ => ?_) fun acc ⟨h1, h2⟩ => ?_
  · simp [vars_cons] at h1 h2
    have := varB_le a
    simp [hi, ha, vcLoose, cVar]
    refine ⟨by omega, by omega, acc ++ varB a.toNat, by simp, by simpa using h1, by simp; omega⟩
  · simp [vars_nil] at h1
    subst h1
    simp [-List.map_append, vcLoose, closed_viewc]
def cPut : Ctr := V2 (fun (b : List (BitVec 8)) (ws : List (BitVec 64)) => b.length + 10 * ws.length ≤ 1000000000) fun b ws => en (b ++ vars ws)
theorem known_Put : Known Tryz.prog 60 cPut := known_V2 (fun b w h => det_put b w h) fun b w h => closed_en _
theorem det_numbers (b : List (BitVec 8)) (ws : List (BitVec 64)) (h : b.length + 10 * ws.length ≤ 1000000000) : Det Tryz.prog 66 [en b, en ws] [] (en (b ++ vars ws)) [] := by
  refine det_finF mixed0 (knows_cons known_r08_Var knows_nil) ok_r29_numbers 1 (by simp) ?_
  simp [-List.map_append, ic_r29_numbers, rs_r29_numbers, cVar]
  refine LoopC.scanB 0#64 ws (fun i (acc : List (BitVec 8)) => ⟨[(0, .view (acc.map Cel.c)), (1, .view (ws.map Cel.c)), (5, .int .i64 i)], []⟩) (fun i acc r => b ++ vars ws = acc ++ vars r ∧ acc.length + 10 * r.length ≤ 1000000000) b (by simp) (by simp) ⟨rfl, h⟩ (fun i a r acc hi ha hd ⟨h1, h2⟩ => ?_) fun acc ⟨h1, h2⟩ => ?_
  · simp [vars_cons] at h1 h2
    have := varB_le a
    simp [hi, ha, vcLoose, cVar]
    refine ⟨by omega, by omega, acc ++ varB a.toNat, by simp, by simpa using h1, by simp; omega⟩
  · simp [vars_nil] at h1
    subst h1
    simp [-List.map_append, vcLoose, closed_viewc]
def cNumbers : Ctr := K2 (fun (b : List (BitVec 8)) (ws : List (BitVec 64)) => b.length + 10 * ws.length ≤ 1000000000) fun b ws => en (b ++ vars ws)
theorem known_Numbers : Known Tryz.prog 66 cNumbers := known_K2 (fun b w h => det_numbers b w h) fun b w h => closed_en _

def u64 (n : Int) : BitVec 64 := BitVec.ofInt 64 n
/-- A spec's numbers. -/
def specNums (x : Spec) : List (BitVec 64) := [u64 x.ID, u64 x.Prio, x.Skill, x.Gear, zig x.From.X, zig x.From.Y, zig x.To.X, zig x.To.Y, u64 x.After.length] ++ x.After.map u64
theorem wrap_u64' (n : Int) : IntKind.u64.wrap n = ((u64 n).toNat : Int) := by
  rw [wrap_u64, u64, BitVec.toNat_ofInt]
  omega
def smallPt (p : Pt) : Prop := isI64 p.X ∧ isI64 p.Y
theorem det_PutSpec (b : List (BitVec 8)) (x : Spec) (hb : b.length ≤ 100000000) (hl : x.After.length ≤ 1000000) (hf : smallPt x.From) (ht : smallPt x.To) : Det Tryz.prog 19 [en b, en x] [] (en (b ++ vars (specNums x))) [] := by
  obtain ⟨f1, f2⟩ := hf
  obtain ⟨t1, t2⟩ := ht
  refine det_finF mixed0 (knows_cons known_Put (knows_cons known_Zig knows_nil)) ok_code_PutSpec 1 (by simp) ?_
  simp [-List.map_append, ic_code_PutSpec, rs_code_PutSpec, cPut, cZig, f1, f2, t1, t2, wrap_u64']
  have l1 := vars_len [u64 x.ID, u64 x.Prio, x.Skill, x.Gear]
  have l2 := vars_len [zig x.From.X, zig x.From.Y, zig x.To.X, zig x.To.Y, u64 x.After.length]
  simp only [List.length_cons, List.length_nil] at l1 l2
  refine ⟨by omega, by omega, ?_⟩
  have hs : b ++ vars (specNums x) = b ++ vars [u64 x.ID, u64 x.Prio, x.Skill, x.Gear] ++ vars [zig x.From.X, zig x.From.Y, zig x.To.X, zig x.To.Y, u64 x.After.length] ++ vars (x.After.map u64) := by
    simp [specNums, vars]
  refine LoopC.scanB (0 : Int) x.After (fun i (acc : List (BitVec 8)) => ⟨[(0, .view (acc.map Cel.c)), (44, .view (x.After.map Cel.c)), (45, .int .i64 x.After.length), (46, .int .i64 i)], []⟩) (fun i acc r => b ++ vars (specNums x) = acc ++ vars (r.map u64) ∧ acc.length + 10 * r.length ≤ 1000000000) (b ++ vars [u64 x.ID, u64 x.Prio, x.Skill, x.Gear] ++ vars [zig x.From.X, zig x.From.Y, zig x.To.X, zig x.To.Y, u64 x.After.length]) (by simp) (by simp) ⟨hs, by simp; omega⟩ (fun i a r acc hi ha hd ⟨h1, h2⟩ => ?_) fun acc ⟨h1, h2⟩ => ?_
  · rw [List.map_cons, vars_cons] at h1
    simp at h2
    have := varB_le (u64 a)
    simp [-List.map_append, hi, ha, vcLoose, cPut, wrap_u64']
    have e : vars [u64 a] = varB (u64 a).toNat := by simp [vars_cons, vars_nil]
    rw [e]
    exact ⟨by omega, ⟨by omega, by omega⟩, h1, by omega⟩
  · simp [vars_nil] at h1
    rw [h1]
    simp [-List.map_append, vcLoose]
theorem det_r29_PutSpec (b : List (BitVec 8)) (x : Spec) (hb : b.length ≤ 100000000) (hl : x.After.length ≤ 1000000) (hf : smallPt x.From) (ht : smallPt x.To) : Det Tryz.prog 24 [en b, en x] [] (en (b ++ vars (specNums x))) [] := by
  obtain ⟨f1, f2⟩ := hf
  obtain ⟨t1, t2⟩ := ht
  refine det_finF mixed0 (knows_cons known_Numbers (knows_cons known_r08_Zig knows_nil)) ok_r29_PutSpec 1 (by simp) ?_
  simp [-List.map_append, ic_r29_PutSpec, rs_r29_PutSpec, cNumbers, cZig, f1, f2, t1, t2, wrap_u64']
  have hs : specNums x = [u64 x.ID, u64 x.Prio, x.Skill, x.Gear, zig x.From.X, zig x.From.Y, zig x.To.X, zig x.To.Y, u64 x.After.length] ++ x.After.map u64 := rfl
  refine LoopC.scanR (0 : Int) x.After (fun i (acc : List (BitVec 64)) => ⟨[(0, .view (b.map Cel.c)), (3, .ptr 0 0 0), (5, .sl 1 0 acc.length), (6, .int .i64 i)], [.rows 9 [Cel.c x], .rows 1 (acc.map Cel.c)]⟩) (fun i acc r => specNums x = acc ++ r.map u64 ∧ acc.length + r.length = 9 + x.After.length) [u64 x.ID, u64 x.Prio, x.Skill, x.Gear, zig x.From.X, zig x.From.Y, zig x.To.X, zig x.To.Y, u64 x.After.length] [0, 1] ?_ ⟨hs, by simp⟩ (fun i a r acc hi ha hd ⟨h1, h2⟩ => ?_) fun acc ⟨h1, h2⟩ => ?_
  · simp [-List.map_append, atR]
  · simp at h1 h2
    simp [-List.map_append, hi, ha, vcLoose, wrap_u64']
    refine ⟨by omega, ⟨by omega, by omega⟩, acc ++ [u64 a], ⟨[0, 2], by simp [atR]⟩, by simpa using h1, by simp; omega⟩
  · simp at h1 h2
    rw [h1]
    simp [-List.map_append, vcLoose, cNumbers, closed_viewc]
    omega
def putOk (b : List (BitVec 8)) (x : Spec) : Prop := b.length ≤ 100000000 ∧ x.After.length ≤ 1000000 ∧ smallPt x.From ∧ smallPt x.To
def cPutSpec : Ctr := V2 putOk fun (b : List (BitVec 8)) (x : Spec) => en (b ++ vars (specNums x))
theorem known_PutSpec : Known Tryz.prog 19 cPutSpec := known_V2 (fun b x h => det_PutSpec b x h.1 h.2.1 h.2.2.1 h.2.2.2) fun b w h => closed_en _
theorem known_r29_PutSpec : Known Tryz.prog 24 cPutSpec := known_V2 (fun b x h => det_r29_PutSpec b x h.1 h.2.1 h.2.2.1 h.2.2.2) fun b w h => closed_en _
end Go.Proofs.YtnckibgcjgeekaaGreat.Sx
