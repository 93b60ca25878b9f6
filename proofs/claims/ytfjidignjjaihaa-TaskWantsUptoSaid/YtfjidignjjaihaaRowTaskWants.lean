/- The statement TaskWants holds of the given program, for every input of bulk at most 1048576. No conditions. -/
import Derived.Test.YtfjidignjjaihaaFnTa2
import Derived.Test.YtfjidignjjaihaaTy2
import Derived.Test.YtfjidignjjaihaaRows
import Derived.Test.YtfjidignjjaihaaChecked
import Derived.JoinedCond
namespace Go.Proofs.Ytfjidignjjaihaa.Sx
open Go Go.RowKit Go.ChangeShapes Go.WideShapes Go.ChangeAt
set_option linter.unusedVariables false
set_option linter.unusedSimpArgs false

namespace TaskWants
theorem own : ownKnob Try.prog.godebug = none := by kernel_rfl
theorem laidOut : laidOutB Try.prog = true := by kernel_rfl
theorem part_le {H : Type} {d : DataW H} {l : List (DataW H)} (h : d ∈ l) : Rows.uptoBulk d ≤ Rows.uptoBulkAll l := by
  induction l with
  | nil => cases h
  | cons x r ih =>
    simp only [Rows.uptoBulkAll]
    cases List.mem_cons.1 h with
    | inl e => subst e; omega
    | inr e => have := ih e; omega
theorem one_le {H : Type} (d : DataW H) : 1 ≤ Rows.uptoBulk d := by
  cases d with
  | lit l => cases l <;> simp [Rows.uptoBulk]
  | nil => simp [Rows.uptoBulk]
  | ptr d => simp [Rows.uptoBulk]
  | slice elems spare => simp [Rows.uptoBulk]
  | agg parts => simp [Rows.uptoBulk]
  | iface t d => simp [Rows.uptoBulk]
  | map entries => simp [Rows.uptoBulk]
  | held h => simp [Rows.uptoBulk]
theorem length_le {H : Type} (l : List (DataW H)) : l.length ≤ Rows.uptoBulkAll l := by
  induction l with
  | nil => simp [Rows.uptoBulkAll]
  | cons x r ih => have := one_le x; simp only [Rows.uptoBulkAll, List.length_cons]; omega
theorem view_len {E : Env} {es : List (List AV)} {v : Value} (h : VRel E (.view es) v) : ∃ a cap, v = .slice a es.length cap := by
  cases h with
  | view0 a cap => exact ⟨a, cap, rfl⟩
  | view c hb hcap hsz hc h1 h => exact ⟨_, _, rfl⟩
theorem spec_len {H : Type} {enc : TypeId × Value → H} {W : World} {a : Spec} {v : Value} {d : DataW H} {p : List MemPlace} (hv : VRel (env0 W) (en a) v) (hd : DataW.Trod enc Try.prog W 0 (fun _ => true) true 44 v d p) : a.After.length ≤ Rows.uptoBulk d := by
  obtain ⟨fuel, h⟩ := hd
  simp at hv
  cases hv with
  | agg hl h1 h2 =>
    rename_i vs
    obtain ⟨xs, m, _, ex, hl3, hxl, hfl⟩ := DataW.trod_struct Try.underlying44 h
    have h8 : DataW.trod enc Try.prog W 0 (fun _ => true) true m 30 (((Value.agg vs.toArray).cells.toList.drop 8).take (Try.prog.cellsOf 30)) = xs[6]? := hfl 6 _ rfl
    have hz : Try.prog.cellsOf 30 = 1 := by kernel_rfl
    have hv8 : 8 < vs.length := by simp at hl; omega
    have hc : (((Value.agg vs.toArray).cells.toList.drop 8).take 1) = [vs[8]] := by
      have : (Value.agg vs.toArray).cells.toList = vs := by simp [Value.cells]
      rw [this, List.drop_eq_getElem_cons hv8]; rfl
    obtain ⟨sa, cap, e8⟩ := view_len (h2 8 _ vs[8] rfl (List.getElem?_eq_getElem hv8))
    rw [hz, hc] at h8
    have h9 := h8
    have hx6 : 6 < xs.length := by
      have e : xs.length = 7 := hxl
      omega
    rw [List.getElem?_eq_getElem hx6] at h9
    have hbig : Rows.uptoBulk xs[6].1 ≤ Rows.uptoBulk d := by
      have e : d = .agg (xs.map (·.1)) := congrArg Prod.fst ex
      rw [e]
      have := part_le (d := xs[6].1) (l := xs.map (·.1)) (List.mem_map.2 ⟨_, List.getElem_mem hx6, rfl⟩)
      simp only [Rows.uptoBulk]
      omega
    rcases DataW.trod_slice Try.underlying30 h9 with ⟨e1, e2⟩ | ⟨b, len, cp, elems, rest, n, _, e1, e2, _, _, _, hlen, _, _, _⟩
    · have e0 := congrArg (fun l : List Value => match l with | [.slice _ n _] => n | _ => 0) e1
      simp only [e8, List.length_map] at e0
      omega
    · have e0 := congrArg (fun l : List Value => match l with | [.slice _ n _] => n | _ => 0) e1
      simp only [e8, List.length_map] at e0
      rw [e2] at hbig
      have := length_le (elems.map (·.1))
      simp only [Rows.uptoBulk, List.length_map] at hbig this
      omega
set_option maxRecDepth 100000 in
theorem lifted (os : Os) (started : os.Started) (H : Type) (enc : TypeId × Value → H) (F : Stop.Interp) :
    ReturnsInHanded {} Try.checked os 6 .any ((Rows.OpenSpec.upto Rows.taskWantsSpec).pre6 enc Try.prog Try.f6 Rows.taskWantsUptoRow.domain false) (((Rows.OpenSpec.upto Rows.taskWantsSpec).at F).post enc Try.prog Try.f6 false true false false) := by
  refine returnsInHanded_of_cond (C := Try.checked) (s := Rows.OpenSpec.upto Rows.taskWantsSpec) (k := Rows.uptoSmall) rfl own started (by kernel_rfl) Try.func6
    (OpenSpec.witness (enc := enc) (C := Try.checked) (s := Rows.OpenSpec.upto Rows.taskWantsSpec) (k := Rows.uptoSmall) rfl false ⟨#[], #[.agg #[.int .i64 0, .int .i64 0, .int .i64 0, .int .i64 0, .int .i64 0, .int .i64 0, .int .i64 0, .slice none 0 0], .agg #[.int .i64 0, .int .i64 0, .int .u64 0, .int .u64 0, .int .i64 0, .int .i64 0, .int .i64 0, .int .i64 0, .slice none 0 0], .int .u64 0, .int .u64 0, .int .u64 0], []⟩ 8 (by kernel_rfl) (by kernel_rfl) (by kernel_rfl)
      (x := ([.agg [.lit (.int .i64 0), .lit (.int .i64 0), .lit (.int .i64 0), .lit (.int .i64 0), .lit (.int .i64 0), .lit (.int .i64 0), .lit (.int .i64 0), .nil], .agg [.lit (.int .i64 0), .lit (.int .i64 0), .lit (.int .u64 0), .lit (.int .u64 0), .agg [.lit (.int .i64 0), .lit (.int .i64 0)], .agg [.lit (.int .i64 0), .lit (.int .i64 0)], .nil], .lit (.int .u64 0), .lit (.int .u64 0), .lit (.int .u64 0)], [], [])) (by kernel_rfl) rfl (by kernel_rfl)) ?_
  intro W base args ds gs before hval0 hW _ hk _
  have hval : ∀ (j : Nat) t v, Try.f6.params[j]? = some t → args[j]? = some v → Value.okWide Try.prog W .any base t v := hval0
  have hW' := hW
  obtain ⟨p, q, hA0, hV, rfl, hfz, hnd⟩ := hW
  have hA : DataW.TrodAll enc Try.prog W 0 (fun _ => true) true Try.f6.params.toList args.toList ds p := hA0
  rw [Try.params6] at hA hval
  obtain ⟨v0, vs0, d0, ds0, p0, q0, hargs, rfl, rfl, h0, r0⟩ := trodAll_cons hA
  obtain ⟨v1, vs1, d1, ds1, p1, q1, rfl, rfl, rfl, h1, r1⟩ := trodAll_cons r0
  obtain ⟨v2, vs2, d2, ds2, p2, q2, rfl, rfl, rfl, h2, r2⟩ := trodAll_cons r1
  obtain ⟨v3, vs3, d3, ds3, p3, q3, rfl, rfl, rfl, h3, r3⟩ := trodAll_cons r2
  obtain ⟨v4, vs4, d4, ds4, p4, q4, rfl, rfl, rfl, h4, r4⟩ := trodAll_cons r3
  obtain ⟨rfl, rfl, rfl⟩ := trodAll_nil r4
  obtain rfl : args = #[v0, v1, v2, v3, v4] := by cases args; simp_all
  obtain ⟨rfl, rfl⟩ := trodVars_none hV
  obtain ⟨a0, ha0, wf0⟩ := Rd.read (α := Rul) (by kernel_rfl) (hval 0 _ v0 rfl rfl) h0
  have lt0 : ∀ x ∈ p0, x.block < W.heap.size := by obtain ⟨m, hm⟩ := h0; exact DataW.trod_lt m _ _ _ hm
  obtain ⟨a1, ha1, wf1⟩ := Rd.read (α := Spec) (by kernel_rfl) (hval 1 _ v1 rfl rfl) h1
  have lt1 : ∀ x ∈ p1, x.block < W.heap.size := by obtain ⟨m, hm⟩ := h1; exact DataW.trod_lt m _ _ _ hm
  obtain ⟨a2, ha2, wf2⟩ := Rd.read (α := (BitVec 64)) (by kernel_rfl) (hval 2 _ v2 rfl rfl) h2
  have lt2 : ∀ x ∈ p2, x.block < W.heap.size := by obtain ⟨m, hm⟩ := h2; exact DataW.trod_lt m _ _ _ hm
  obtain ⟨a3, ha3, wf3⟩ := Rd.read (α := (BitVec 64)) (by kernel_rfl) (hval 3 _ v3 rfl rfl) h3
  have lt3 : ∀ x ∈ p3, x.block < W.heap.size := by obtain ⟨m, hm⟩ := h3; exact DataW.trod_lt m _ _ _ hm
  obtain ⟨a4, ha4, wf4⟩ := Rd.read (α := (BitVec 64)) (by kernel_rfl) (hval 4 _ v4 rfl rfl) h4
  have lt4 : ∀ x ∈ p4, x.block < W.heap.size := by obtain ⟨m, hm⟩ := h4; exact DataW.trod_lt m _ _ _ hm
  clear hA0 hval0
  have hs : a1.After.length ≤ 1048576 := by
    have hb : Rows.uptoBulkAll _ ≤ 1048576 := of_decide_eq_true hk
    have h2 := spec_len ha1 h1
    have h3 := part_le (d := d1) (l := _) (show d1 ∈ (d0 :: d1 :: d2 :: d3 :: d4 :: []) ++ [] by simp)
    exact Nat.le_trans h2 (Nat.le_trans h3 hb)
  refine ((det_TaskWants a0 wf0 a1 wf1 a2 wf2 a3 wf3 a4 wf4 hs).2 (env0 W) [v0, v1, v2, v3, v4] (env0_hrel W) (.cons ha0 (.cons ha1 (.cons ha2 (.cons ha3 (.cons ha4 .nil)))))).mono fun e W' hr => ?_
  obtain ⟨v, E', r, H', rfl, rfl, hv, _, hx, rfl, _⟩ := hr
  have hb := hv.bool_inv
  subst hb
  have bel := env0_below hx
  exact ⟨_, rfl, _, _, _, [], _, [], hW', trodAll_mk1 (shut_bool Try.underlying4 _), (trodAll_cons_mk (Below.trod laidOut (by kernel_rfl) (of_decide_eq_true (by kernel_rfl)) h0 bel lt0) (trodAll_cons_mk (Below.trod laidOut (by kernel_rfl) (of_decide_eq_true (by kernel_rfl)) h1 bel lt1) (trodAll_cons_mk (Below.trod laidOut (by kernel_rfl) (of_decide_eq_true (by kernel_rfl)) h2 bel lt2) (trodAll_cons_mk (Below.trod laidOut (by kernel_rfl) (of_decide_eq_true (by kernel_rfl)) h3 bel lt3) (trodAll_cons_mk (Below.trod laidOut (by kernel_rfl) (of_decide_eq_true (by kernel_rfl)) h4 bel lt4) trodAll_mk0))))), rfl, bel.frame _, fun h => by cases h⟩
theorem over : Rows.TaskWantsUptoSaid :=
  OpenClaim.holds_of_cond 6 Try.f6 rfl rfl rfl rfl rfl rfl rfl ⟨rfl, rfl, rfl, rfl, rfl⟩ rfl rfl rfl rfl rfl (by kernel_rfl) Try.func6 (by kernel_rfl)
    (of_decide_eq_true (by kernel_rfl)) (by unfold Func.isWrapper; first | (rw [if_pos (by decide +kernel)]; kernel_rfl) | (rw [if_neg (by decide +kernel)]; exact ⟨rfl, rfl⟩))
    (fun os started H enc _ F => lifted os started H enc F)
end TaskWants
end Go.Proofs.Ytfjidignjjaihaa.Sx
namespace Go.Proofs.Ytfjidignjjaihaa
theorem taskWantsUpto_holds : Rows.TaskWantsUptoSaid := Sx.TaskWants.over
#print axioms taskWantsUpto_holds
end Go.Proofs.Ytfjidignjjaihaa
