/- The statement LockDoes holds of the given program, for every input. No conditions. -/
import Derived.Test.YtphkdomiehboaaaLock8
import Derived.Test.YtphkdomiehboaaaRows
import Derived.ProofKit
import Derived.OpenShut
import Derived.ShutString
import Derived.ChangeOld
import Derived.SizedLaws
import Derived.Carry
namespace Go.Proofs.Ytphkdomiehboaaa.Sx
open Go Go.RowKit Go.ChangeShapes Go.WideShapes Go.ChangeAt
set_option linter.unusedVariables false
set_option linter.unusedSimpArgs false

/-- The world of a call, of which nothing is anybody's own. -/
def env0 (W : World) : Env := ⟨W, fun _ => none, 0, fun _ => False⟩
theorem env0_hrel (W : World) : HRel (env0 W) [] := ⟨rfl, fun id l h => (by cases h), fun id o h => (by simp at h), fun i j li lj h => (by cases h), fun id l h => (by cases h), fun b h => False.elim h⟩
theorem env0_free {W : World} {b : Nat} (h : b < W.heap.size) : (env0 W).free b := ⟨h, fun id l h => (by cases h), fun h => h⟩
theorem env0_below {W : World} {m : Nat} {E' : Env} (x : Ext m (env0 W) E') : Below W.heap.size W E'.w := ⟨x.os, x.tape, x.output, x.size, fun k hk => (x.keep k (env0_free hk)).1⟩

section
variable {H : Type} {enc : TypeId × Value → H} {P : Program} {W : World}
theorem read_acts {t e : TypeId} {f0 f1 : Field} (ht : P.underlying t = some (.slice e)) (he : P.underlying e = some (.struct #[f0, f1])) (h0 : P.underlying f0.type = some (.int .i64)) (h1 : P.underlying f1.type = some (.int .i64))
    (o0 : f0.offset = 0) (o1 : f1.offset = 1) (ce : P.cellsOf e = 2) (c0 : P.cellsOf f0.type = 1) (c1 : P.cellsOf f1.type = 1) {v : Value} {a : Option Addr} {len cap : Nat} (hv : v = .slice a len cap) {d : DataW H} {ps : List MemPlace}
    (h : DataW.Trod enc P W 0 (fun _ => true) true t v d ps) : ∃ acts, VRel (env0 W) (vA acts) v := by
  subst hv
  obtain ⟨fuel, hf⟩ := h
  rcases DataW.trod_slice ht hf with ⟨hcs, _⟩ | ⟨a', len', cap', elems, rest, n, _, hcs, _, hb, hl, hm, hlen, hel, _, _⟩
  · simp [Value.cells] at hcs
    obtain ⟨rfl, rfl, rfl⟩ := hcs
    exact ⟨[], .view0 _ _⟩
  · simp [Value.cells] at hcs
    obtain ⟨rfl, rfl, rfl⟩ := hcs
    by_cases hz : len = 0
    · subst hz; exact ⟨[], .view0 _ _⟩
    · have each : ∀ i, i < len → ∃ x y : Int, W.cell? (a'.add (i * 2)) = some (.int .i64 x) ∧ W.cell? ((a'.add (i * 2)).add 1) = some (.int .i64 y) := fun i hi => by
        have h2 := hel i hi
        rw [List.getElem?_eq_getElem (by omega)] at h2
        obtain ⟨cs, hcs, htr⟩ := Option.bind_eq_some_iff.1 h2
        rw [ce] at hcs
        obtain ⟨_, hl2, hc⟩ := World.cells?_some hcs
        obtain ⟨xs, m, _, _, _, hxl, hfl⟩ := DataW.trod_struct he htr
        have g0 := hfl 0 f0 rfl
        have g1 := hfl 1 f1 rfl
        simp only [o0, o1, c0, c1, List.drop_zero] at g0 g1
        simp at hxl
        rw [List.getElem?_eq_getElem (by omega)] at g0 g1
        obtain ⟨x, hx, _⟩ := DataW.trod_int h0 g0
        obtain ⟨y, hy, _⟩ := DataW.trod_int h1 g1
        have k0 := hc 0 (by omega)
        have k1 := hc 1 (by omega)
        match cs, hl2 with
        | [p, q], _ =>
          simp at hx hy
          subst hx
          subst hy
          refine ⟨x, y, ?_, ?_⟩
          · simpa [ce, Addr.add] using k0
          · simpa [ce] using k1
      obtain ⟨b, o, sp⟩ := a'
      cases sp with
      | some q =>
        obtain ⟨x, y, hx, _⟩ := each 0 (by omega)
        simp only [Nat.zero_mul, Addr.add, if_true, World.cell?] at hx
        split at hx
        · simp at hx
        · cases hx
      | none =>
        have ex : ∃ g : Nat → Int × Int, ∀ i, i < len → W.cell? ⟨b, o + i * 2, none⟩ = some (.int .i64 (g i).1) ∧ W.cell? ⟨b, o + i * 2 + 1, none⟩ = some (.int .i64 (g i).2) := by
          refine (Classical.skolem (p := fun i (g : Int × Int) => i < len → W.cell? ⟨b, o + i * 2, none⟩ = some (.int .i64 g.1) ∧ W.cell? ⟨b, o + i * 2 + 1, none⟩ = some (.int .i64 g.2))).1 fun i => ?_
          by_cases hi : i < len
          · obtain ⟨x, y, hx, hy⟩ := each i hi
            simp only [add_addr] at hx hy
            exact ⟨(x, y), fun _ => ⟨hx, hy⟩⟩
          · exact ⟨(0, 0), fun h => absurd h hi⟩
        obtain ⟨g, hg⟩ := ex
        have hblk : b < W.heap.size := World.block_lt_of_cell? W _ (hg 0 (by omega)).1
        refine ⟨(List.range len).map g, ?_⟩
        have e : len = (((List.range len).map g).map rA).length := by simp
        have key : VRel (env0 W) (vA ((List.range len).map g)) (.slice (some ⟨b, o, none⟩) (((List.range len).map g).map rA).length cap) := by
          refine .view (sz := 2) (fun i j => if j = 0 then .int .i64 (g i).1 else .int .i64 (g i).2) (env0_free hblk) (by rw [← e]; exact hl) (fun i r hi => ?_) (fun i j hi hj => ?_) (fun i j hi hj => ?_) (fun i r j a hi hj => ?_)
          · simp only [List.getElem?_map, Option.map_eq_some_iff] at hi
            obtain ⟨y, _, rfl⟩ := hi
            rfl
          · rw [← e] at hi
            have := hg i hi
            match j, hj with
            | 0, _ => simpa [env0] using this.1
            | 1, _ => simpa [env0] using this.2
          · show Value.oneCell' (if j = 0 then _ else _) = true
            split <;> rfl
          · have hlt := (List.getElem?_eq_some_iff.1 hi).1
            rw [← e] at hlt
            simp only [List.getElem?_map, List.getElem?_range hlt, Option.map_some, Option.some.injEq] at hi
            subst hi
            match j, hj with
            | 0, hj => simp [rA] at hj; subst hj; exact .int _ _
            | 1, hj => simp [rA] at hj; subst hj; exact .int _ _
            | j + 2, hj => simp [rA] at hj
        rw [← e] at key
        exact key
end

namespace Fifo
theorem own : ownKnob Try.prog.godebug = none := by kernel_rfl
theorem laidOut : laidOutB Try.prog = true := by kernel_rfl
set_option maxRecDepth 100000 in
theorem lifted (os : Os) (started : os.Started) (H : Type) (enc : TypeId × Value → H) :
    ReturnsInHanded {} Try.checked os 5 .any (Rows.lockDoesSpec.pre6 enc Try.prog Try.f5 Rows.lockDoesRow.domain false) (Rows.lockDoesSpec.post enc Try.prog Try.f5 false true false false) := by
  refine returnsInHanded_of_change_sized (C := Try.checked) own started (by kernel_rfl) Try.func5
    (ChangeSpec.witness6 (enc := enc) (C := Try.checked) false ⟨#[], #[.int .i64 0, .slice none 0 0], []⟩ 8 (by kernel_rfl) (by kernel_rfl) (by kernel_rfl) (by kernel_rfl)) ?_
  intro W base args ds gs before hval0 hW hcnd hsz0 _
  have hval : ∀ (j : Nat) t v, Try.f5.params[j]? = some t → args[j]? = some v → Value.okWide Try.prog W .any base t v := hval0
  have hW' := hW
  obtain ⟨p, q, hA0, hV, rfl, hfz, hnd⟩ := hW
  have hA : DataW.TrodAll enc Try.prog W 0 (fun _ => true) true Try.f5.params.toList args.toList ds p := hA0
  rw [Try.params5] at hA hval
  obtain ⟨v0, vs0, d0, ds0, p0, q0, hargs, rfl, rfl, h0, r0⟩ := trodAll_cons hA
  obtain ⟨v1, vs1, d1, ds1, p1, q1, rfl, rfl, rfl, h1, r1⟩ := trodAll_cons r0
  obtain ⟨rfl, rfl, rfl⟩ := trodAll_nil r1
  obtain rfl : args = #[v0, v1] := by cases args; simp_all
  obtain ⟨rfl, rfl⟩ := trodVars_none hV
  obtain ⟨a0, rfl, rfl, rfl, w0⟩ := open_int Try.underlying3 (hval 0 3 v0 rfl rfl) h0
  obtain ⟨a1, len1, cap1, hv1⟩ := okWide_slice Try.underlying46 (hval 1 46 v1 rfl rfl)
  obtain ⟨acts, hacts⟩ := read_acts Try.underlying46 Try.underlying52 Try.underlying3 Try.underlying3 rfl rfl (by kernel_rfl) (by kernel_rfl) (by kernel_rfl) hv1 h1
  have lt1 : ∀ x ∈ p1, x.block < W.heap.size := by obtain ⟨m, hm⟩ := h1; exact DataW.trod_lt m _ _ _ hm
  clear hA0 hval0 hsz0
  refine ((det_LockDoes a0 acts).2 (env0 W) [.int .i64 a0, v1] (env0_hrel W) (.cons (.int _ _) (.cons hacts .nil))).mono fun e W' hr => ?_
  obtain ⟨v, E', r, H', rfl, rfl, hv, _, hx, rfl, _⟩ := hr
  have hb := hv.bool_inv
  subst hb
  have bel := env0_below hx
  exact ⟨_, rfl, _, _, _, [], _, [], hW', trodAll_mk1 (shut_bool Try.underlying4 _), (trodAll_cons_mk (shut_int Try.underlying3 w0) (trodAll_cons_mk (Below.trod laidOut (by kernel_rfl) (of_decide_eq_true (by kernel_rfl)) h1 bel lt1) trodAll_mk0)), rfl, bel.frame _, fun h => by cases h⟩
theorem over : Rows.lockDoesRow.holds Try.pinned (OpenSpec.ofChange Rows.lockDoesSpec) :=
  OpenClaim.holds_of_wide 5 Try.f5 rfl rfl rfl rfl rfl rfl rfl ⟨rfl, rfl, rfl, rfl, rfl⟩ rfl rfl rfl rfl rfl (by kernel_rfl) Try.func5 (by kernel_rfl)
    (of_decide_eq_true (by kernel_rfl)) (by unfold Func.isWrapper; first | (rw [if_pos (by decide +kernel)]; kernel_rfl) | (rw [if_neg (by decide +kernel)]; exact ⟨rfl, rfl⟩))
    (fun os started H enc _ => lifted os started H enc)
end Fifo
end Go.Proofs.Ytphkdomiehboaaa.Sx
namespace Go.Proofs.Ytphkdomiehboaaa
theorem lockDoes_holds : Rows.LockDoesSaid := Sx.Fifo.over
#print axioms lockDoes_holds
end Go.Proofs.Ytphkdomiehboaaa
