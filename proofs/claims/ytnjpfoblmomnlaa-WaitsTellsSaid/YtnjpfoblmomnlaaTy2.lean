/- What a statement's function is called with, read as typed values. No conditions: a kit of our own. -/
import Derived.Test.YtnjpfoblmomnlaaTy1
import Derived.ProofKit
import Derived.OpenShut
import Derived.ShutString
import Derived.ChangeOld
import Derived.SizedLaws
import Derived.Carry
namespace Go.Proofs.Ytnjpfoblmomnlaa.Sx
open Go Go.RowKit Go.ChangeShapes Go.WideShapes Go.ChangeAt
set_option linter.unusedVariables false
set_option linter.unusedSimpArgs false

/-- The world of a call, of which nothing is anybody's own. -/
def env0 (W : World) : Env := ⟨W, fun _ => none, 0, ⟨fun _ => False, fun _ => none⟩⟩
theorem env0_hrel (W : World) : HRel (env0 W) [] := ⟨rfl, fun id l h => (by cases h), fun id o h => (by simp at h), fun i j li lj h => (by cases h), fun id l h => (by cases h), fun b h => False.elim h⟩
theorem env0_free {W : World} {b : Nat} (h : b < W.heap.size) : (env0 W).free b := ⟨h, fun id l h => (by cases h), fun h => h⟩
theorem env0_below {W : World} {m : Nat} {E' : Env} (x : Ext m (env0 W) E') : Below W.heap.size W E'.w := ⟨x.os, x.tape, x.output, x.size, fun k hk => (x.keep k (env0_free hk)).1⟩

def isAggV : Value → Bool
  | .agg _ => true
  | _ => false
theorem cells_noagg {v : Value} (h : isAggV v = false) : v.cells.toList = [v] := by cases v <;> first | rfl | (simp [isAggV] at h)

instance : Cel Unit where
  n := 0
  agg := true
  c _ := []
  u _ _ := ()
  ok _ cs := cs = []
  len x := rfl
  plain x a h := by simp at h
  closed x a h := by simp at h
  nn x := by simp
  one h := by cases h
  u_c H x := rfl
  ok_c H x := rfl
  seen H cs h := by subst h; exact each_nil
@[simp] theorem c_unit (x : Unit) : Cel.c x = [] := rfl

class Rd (α : Type) [Cel α] where
  fits : Program → TypeId → Bool
  wf : α → Prop
  size : ∀ {P : Program} {t : TypeId}, fits P t = true → P.cellsOf t = Cel.n α
  rd : ∀ {H : Type} {enc : TypeId × Value → H} {P : Program} {W : World} {fuel : Nat} {t : TypeId} {cs : List Value} {x : DataW H × List MemPlace}, fits P t = true → DataW.trod enc P W 0 (fun _ => true) true fuel t cs = some x →
    ∃ a : α, VRels (env0 W) (Cel.c a) cs ∧ (∀ v ∈ cs, v.oneCell' = true) ∧ wf a
  top : ∀ {P : Program} {W : World} {r : Reach} {b : Nat} {t : TypeId} {v : Value}, fits P t = true → Value.okWide P W r b t v → isAggV v = Cel.agg α

theorem Rd.read {α : Type} [Cel α] [Rd α] {H : Type} {enc : TypeId × Value → H} {P : Program} {W : World} {r : Reach} {b : Nat} {t : TypeId} {v : Value} {d : DataW H} {ps : List MemPlace} (hf : Rd.fits α P t = true) (hv : Value.okWide P W r b t v)
    (h : DataW.Trod enc P W 0 (fun _ => true) true t v d ps) : ∃ a : α, VRel (env0 W) (en a) v ∧ Rd.wf a := by
  obtain ⟨fuel, h⟩ := h
  obtain ⟨a, h1, h2, h3⟩ := Rd.rd hf h
  refine ⟨a, ?_, h3⟩
  have ht := Rd.top hf hv
  unfold en
  cases hg : Cel.agg α
  · rw [hg] at ht
    rw [cells_noagg ht] at h1
    obtain ⟨y, hy, _⟩ := one_cell hg a
    rw [hy] at h1 ⊢
    simp only [Bool.false_eq_true, if_false, nth_zero]
    exact h1.at_ 0 y v rfl rfl
  · rw [hg] at ht
    cases v <;> first | (simp [isAggV] at ht; done) | skip
    rename_i cs
    simp only [if_true]
    have := VRel.agg (E := env0 W) (cs := Cel.c a) (vs := cs.toList) h1.len h2 h1.at_
    simpa using this

theorem wf_i64 {n : Int} (h : (Lit.int .i64 n).wf = true) : -9223372036854775808 ≤ n ∧ n ≤ 9223372036854775807 := by
  simp [Lit.wf, IntKind.min, IntKind.max, IntKind.signed, IntKind.bits] at h
  omega
theorem wf_u64 {n : Int} (h : (Lit.int .u64 n).wf = true) : 0 ≤ n ∧ n < 18446744073709551616 := by
  simp [Lit.wf, IntKind.min, IntKind.max, IntKind.signed, IntKind.bits] at h
  omega
theorem wf_u32 {n : Int} (h : (Lit.int .u32 n).wf = true) : 0 ≤ n ∧ n < 4294967296 := by
  simp [Lit.wf, IntKind.min, IntKind.max, IntKind.signed, IntKind.bits] at h
  omega
theorem wf_u16 {n : Int} (h : (Lit.int .u16 n).wf = true) : 0 ≤ n ∧ n < 65536 := by
  simp [Lit.wf, IntKind.min, IntKind.max, IntKind.signed, IntKind.bits] at h
  omega
theorem wf_u8 {n : Int} (h : (Lit.int .u8 n).wf = true) : 0 ≤ n ∧ n < 256 := by
  simp [Lit.wf, IntKind.min, IntKind.max, IntKind.signed, IntKind.bits] at h
  omega
def isInt (P : Program) (t : TypeId) (k : IntKind) : Bool := (match P.underlying t with | some (.int k') => k' == k | _ => false) && P.cellsOf t == 1
theorem isInt_spec {P : Program} {t : TypeId} {k : IntKind} (h : isInt P t k = true) : P.underlying t = some (.int k) ∧ P.cellsOf t = 1 := by
  simp only [isInt, Bool.and_eq_true, beq_iff_eq] at h
  refine ⟨?_, h.2⟩
  have := h.1
  split at this
  · rename_i k' e; simp only [beq_iff_eq] at this; rw [e, this]
  · cases this
theorem vrels1 {E : Env} {a : AV} {v : Value} (h : VRel E a v) : VRels E [a] [v] := .cons h .nil
instance : Rd Int where
  fits P t := isInt P t .i64
  wf x := -9223372036854775808 ≤ x ∧ x ≤ 9223372036854775807
  size h := (isInt_spec h).2
  rd h hd := by
    obtain ⟨n, rfl, _, hw⟩ := DataW.trod_int (isInt_spec h).1 hd
    exact ⟨n, vrels1 (.int _ _), fun v hv => by simp at hv; subst hv; rfl, wf_i64 hw⟩
  top h hv := by
    obtain ⟨n, rfl⟩ := okWide_int (isInt_spec h).1 hv
    rfl
instance : Rd (BitVec 64) where
  fits P t := isInt P t .u64
  wf x := True
  size h := (isInt_spec h).2
  rd h hd := by
    obtain ⟨n, rfl, _, hw⟩ := DataW.trod_int (isInt_spec h).1 hd
    obtain ⟨h1, h2⟩ := wf_u64 hw
    have e : ((BitVec.ofInt 64 n).toNat : Int) = n := by rw [BitVec.toNat_ofInt]; omega
    exact ⟨BitVec.ofInt 64 n, vrels1 (by rw [e]; exact .int _ _), fun v hv => by simp at hv; subst hv; rfl, trivial⟩
  top h hv := by
    obtain ⟨n, rfl⟩ := okWide_int (isInt_spec h).1 hv
    rfl
instance : Rd (BitVec 32) where
  fits P t := isInt P t .u32
  wf x := True
  size h := (isInt_spec h).2
  rd h hd := by
    obtain ⟨n, rfl, _, hw⟩ := DataW.trod_int (isInt_spec h).1 hd
    obtain ⟨h1, h2⟩ := wf_u32 hw
    have e : ((BitVec.ofInt 32 n).toNat : Int) = n := by rw [BitVec.toNat_ofInt]; omega
    exact ⟨BitVec.ofInt 32 n, vrels1 (by rw [e]; exact .int _ _), fun v hv => by simp at hv; subst hv; rfl, trivial⟩
  top h hv := by
    obtain ⟨n, rfl⟩ := okWide_int (isInt_spec h).1 hv
    rfl
instance : Rd (BitVec 16) where
  fits P t := isInt P t .u16
  wf x := True
  size h := (isInt_spec h).2
  rd h hd := by
    obtain ⟨n, rfl, _, hw⟩ := DataW.trod_int (isInt_spec h).1 hd
    obtain ⟨h1, h2⟩ := wf_u16 hw
    have e : ((BitVec.ofInt 16 n).toNat : Int) = n := by rw [BitVec.toNat_ofInt]; omega
    exact ⟨BitVec.ofInt 16 n, vrels1 (by rw [e]; exact .int _ _), fun v hv => by simp at hv; subst hv; rfl, trivial⟩
  top h hv := by
    obtain ⟨n, rfl⟩ := okWide_int (isInt_spec h).1 hv
    rfl
instance : Rd (BitVec 8) where
  fits P t := isInt P t .u8
  wf x := True
  size h := (isInt_spec h).2
  rd h hd := by
    obtain ⟨n, rfl, _, hw⟩ := DataW.trod_int (isInt_spec h).1 hd
    obtain ⟨h1, h2⟩ := wf_u8 hw
    have e : ((BitVec.ofInt 8 n).toNat : Int) = n := by rw [BitVec.toNat_ofInt]; omega
    exact ⟨BitVec.ofInt 8 n, vrels1 (by rw [e]; exact .int _ _), fun v hv => by simp at hv; subst hv; rfl, trivial⟩
  top h hv := by
    obtain ⟨n, rfl⟩ := okWide_int (isInt_spec h).1 hv
    rfl
def isBoolT (P : Program) (t : TypeId) : Bool := (match P.underlying t with | some .bool => true | _ => false) && P.cellsOf t == 1
theorem isBoolT_spec {P : Program} {t : TypeId} (h : isBoolT P t = true) : P.underlying t = some .bool ∧ P.cellsOf t = 1 := by
  simp only [isBoolT, Bool.and_eq_true, beq_iff_eq] at h
  refine ⟨?_, h.2⟩
  have := h.1
  split at this
  · assumption
  · cases this
instance : Rd Bool where
  fits P t := isBoolT P t
  wf x := True
  size h := (isBoolT_spec h).2
  rd h hd := by
    obtain ⟨b, rfl, _⟩ := DataW.trod_bool (isBoolT_spec h).1 hd
    exact ⟨b, vrels1 (.bool _), fun v hv => by simp at hv; subst hv; rfl, trivial⟩
  top h hv := by
    obtain ⟨n, rfl⟩ := okWide_bool (isBoolT_spec h).1 hv
    rfl
def isSl (P : Program) (t : TypeId) (el : TypeId → Bool) : Bool := (match P.underlying t with | some (.slice e) => el e | _ => false) && P.cellsOf t == 1
theorem isSl_spec {P : Program} {t : TypeId} {el : TypeId → Bool} (h : isSl P t el = true) : ∃ e, P.underlying t = some (.slice e) ∧ el e = true ∧ P.cellsOf t = 1 := by
  simp only [isSl, Bool.and_eq_true, beq_iff_eq] at h
  have := h.1
  split at this
  · rename_i e he; exact ⟨e, he, this, h.2⟩
  · cases this
instance {α : Type} [Cel α] [Rd α] : Rd (List α) where
  fits P t := isSl P t (Rd.fits α P) && decide (0 < Cel.n α)
  wf xs := xs.length ≤ 9223372036854775807 ∧ ∀ x ∈ xs, Rd.wf x
  size h := by
    simp only [Bool.and_eq_true] at h
    obtain ⟨e, h1, h2, h3⟩ := isSl_spec h.1
    exact h3
  top h hv := by
    simp only [Bool.and_eq_true] at h
    obtain ⟨e, h1, h2, h3⟩ := isSl_spec h.1
    obtain ⟨a, l, c, rfl⟩ := okWide_slice h1 hv
    rfl
  rd {H enc P W fuel t cs x} h hd := by
    simp only [Bool.and_eq_true, decide_eq_true_eq] at h
    obtain ⟨h, hpos⟩ := h
    obtain ⟨e, ht, he, h3⟩ := isSl_spec h
    have ce := Rd.size he
    rcases DataW.trod_slice ht hd with ⟨rfl, _⟩ | ⟨a', len, cap, elems, rest, n, _, rfl, _, hb, hl, hm, hlen, hel, _, _⟩
    · exact ⟨[], vrels1 (.view0 _ _), fun v hv => by simp at hv; subst hv; rfl, by simp, by simp⟩
    · by_cases hz : len = 0
      · subst hz
        exact ⟨[], vrels1 (.view0 _ _), fun v hv => by simp at hv; subst hv; rfl, by simp, by simp⟩
      · rw [ce] at hel
        have each : ∀ i, i < len → ∃ (y : α) (cs : List Value), VRels (env0 W) (Cel.c y) cs ∧ (∀ v ∈ cs, v.oneCell' = true) ∧ Rd.wf y ∧ ∀ j, j < Cel.n α → W.cell? ((a'.add (i * Cel.n α)).add j) = cs[j]? := fun i hi => by
          have h2 := hel i hi
          rw [List.getElem?_eq_getElem (by omega)] at h2
          obtain ⟨cs, hcs, htr⟩ := Option.bind_eq_some_iff.1 h2
          obtain ⟨_, hl2, hc⟩ := World.cells?_some hcs
          obtain ⟨y, g1, g2, g3⟩ := Rd.rd he htr
          exact ⟨y, cs, g1, g2, g3, hc⟩
        obtain ⟨b, o, sp⟩ := a'
        cases sp with
        | some q =>
          obtain ⟨y, cs, g1, g2, g3, g4⟩ := each 0 (by omega)
          have := g4 0 hpos
          have hl2 := g1.len
          rw [Cel.len] at hl2
          rw [List.getElem?_eq_getElem (by omega)] at this
          simp only [Nat.zero_mul, Addr.add, if_true, World.cell?] at this
          split at this
          · simp at this
          · cases this
        | none =>
          have ex : ∃ g : Nat → α × List Value, ∀ i, i < len → VRels (env0 W) (Cel.c (g i).1) (g i).2 ∧ (∀ v ∈ (g i).2, v.oneCell' = true) ∧ Rd.wf (g i).1 ∧ ∀ j, j < Cel.n α → W.cell? ⟨b, o + i * Cel.n α + j, none⟩ = (g i).2[j]? := by
            obtain ⟨y0, cs0, _⟩ := each 0 (by omega)
            refine (Classical.skolem (p := fun i (g : α × List Value) => i < len → VRels (env0 W) (Cel.c g.1) g.2 ∧ (∀ v ∈ g.2, v.oneCell' = true) ∧ Rd.wf g.1 ∧ ∀ j, j < Cel.n α → W.cell? ⟨b, o + i * Cel.n α + j, none⟩ = g.2[j]?)).1 fun i => ?_
            by_cases hi : i < len
            · obtain ⟨y, cs, g1, g2, g3, g4⟩ := each i hi
              refine ⟨(y, cs), fun _ => ⟨g1, g2, g3, fun j hj => ?_⟩⟩
              have := g4 j hj
              simp only [add_addr] at this
              exact this
            · exact ⟨(y0, cs0), fun h => absurd h hi⟩
          obtain ⟨g, hg⟩ := ex
          have hl0 : ∀ i, i < len → (g i).2.length = Cel.n α := fun i hi => by
            have := (hg i hi).1.len
            rw [Cel.len] at this
            exact this
          have hcell : ∀ i j, i < len → (hj : j < Cel.n α) → W.cell? ⟨b, o + i * Cel.n α + j, none⟩ = some ((g i).2.getD j default) := fun i j hi hj => by
            rw [(hg i hi).2.2.2 j hj, List.getD_eq_getElem?_getD]
            rw [List.getElem?_eq_getElem (by rw [hl0 i hi]; exact hj)]
            rfl
          have hblk : b < W.heap.size := World.block_lt_of_cell? W _ (hcell 0 0 (by omega) hpos)
          refine ⟨(List.range len).map fun i => (g i).1, ?_, fun v hv => by simp at hv; subst hv; rfl, ?_, ?_⟩
          · refine vrels1 ?_
            have eq1 : ∀ (i : Nat) r, (((List.range len).map fun i => (g i).1).map Cel.c)[i]? = some r → i < len ∧ r = Cel.c (g i).1 := fun i r hi => by
              have hlt := (List.getElem?_eq_some_iff.1 hi).1
              simp at hlt
              simp only [List.getElem?_map, List.getElem?_range hlt, Option.map_some, Option.some.injEq] at hi
              exact ⟨hlt, hi.symm⟩
            have el : (((List.range len).map fun i => (g i).1).map Cel.c).length = len := by simp
            have key : VRel (env0 W) (.view (((List.range len).map fun i => (g i).1).map Cel.c)) (.slice (some ⟨b, o, none⟩) (((List.range len).map fun i => (g i).1).map Cel.c).length cap) := by
              refine .view (sz := Cel.n α) (fun i j => (g i).2.getD j default) (env0_free hblk) (by rw [el]; exact hl) (fun i r hi => ?_) (fun i j hi hj => ?_) (fun i j hi hj => ?_) (fun i r j a hi hj => ?_)
              · obtain ⟨_, rfl⟩ := eq1 i r hi
                exact Cel.len _
              · rw [el] at hi
                exact hcell i j hi hj
              · rw [el] at hi
                refine (hg i hi).2.1 _ ?_
                rw [List.getD_eq_getElem?_getD, List.getElem?_eq_getElem (by rw [hl0 i hi]; exact hj)]
                exact List.getElem_mem _
              · obtain ⟨hi', rfl⟩ := eq1 i r hi
                have hjl := (List.getElem?_eq_some_iff.1 hj).1
                rw [Cel.len] at hjl
                refine (hg i hi').1.at_ j a _ hj ?_
                rw [List.getD_eq_getElem?_getD, List.getElem?_eq_getElem (by rw [hl0 i hi']; exact hjl)]
                rfl
            rw [el] at key
            exact key
          · simp
            have : maxLen = 9223372036854775807 := by decide
            omega
          · intro y hy
            obtain ⟨i, hi, rfl⟩ := List.mem_map.1 hy
            exact (hg i (List.mem_range.1 hi)).2.2.1

@[simp] theorem wf_int (x : Int) : Rd.wf x = (-9223372036854775808 ≤ x ∧ x ≤ 9223372036854775807) := rfl
@[simp] theorem wf_u64' (x : BitVec 64) : Rd.wf x = True := rfl
@[simp] theorem wf_u32' (x : BitVec 32) : Rd.wf x = True := rfl
@[simp] theorem wf_u16' (x : BitVec 16) : Rd.wf x = True := rfl
@[simp] theorem wf_u8' (x : BitVec 8) : Rd.wf x = True := rfl
@[simp] theorem wf_bool (x : Bool) : Rd.wf x = True := rfl
@[simp] theorem wf_list {α : Type} [Cel α] [Rd α] (xs : List α) : Rd.wf xs = (xs.length ≤ 9223372036854775807 ∧ ∀ x ∈ xs, Rd.wf x) := rfl

/-- Fields one behind the other. -/
class RdS (α : Type) [Cel α] where
  fits : Program → List Field → Nat → Bool
  wf : α → Prop
  rd : ∀ {H : Type} {enc : TypeId × Value → H} {P : Program} {W : World} {fuel : Nat} {fs : List Field} {off : Nat} {cs : List Value}, fits P fs off = true →
    (∀ f ∈ fs, ∃ y, DataW.trod enc P W 0 (fun _ => true) true fuel f.type ((cs.drop f.offset).take (P.cellsOf f.type)) = some y) →
    ∃ a : α, VRels (env0 W) (Cel.c a) ((cs.drop off).take (Cel.n α)) ∧ (∀ v ∈ (cs.drop off).take (Cel.n α), v.oneCell' = true) ∧ wf a
instance : RdS Unit where
  fits P fs off := fs.isEmpty
  wf _ := True
  rd h hd := ⟨(), by
    show VRels _ [] (List.take 0 _)
    rw [List.take_zero]
    exact .nil, fun v hv => by
      change v ∈ List.take 0 _ at hv
      simp at hv, trivial⟩
theorem VRels.app {E : Env} {as bs : List AV} {vs ws : List Value} (h : VRels E as vs) (t : VRels E bs ws) : VRels E (as ++ bs) (vs ++ ws) := h.append t
instance {α β : Type} [Cel α] [Rd α] [Cel β] [RdS β] : RdS (α × β) where
  fits P fs off := match fs with
    | f :: rest => f.offset == off && Rd.fits α P f.type && RdS.fits β P rest (off + Cel.n α)
    | [] => false
  wf x := Rd.wf x.1 ∧ RdS.wf x.2
  rd {H enc P W fuel fs off cs} h hd := by
    match fs, h, hd with
    | f :: rest, h, hd =>
      simp only [Bool.and_eq_true, beq_iff_eq] at h
      obtain ⟨⟨h1, h2⟩, h3⟩ := h
      obtain ⟨y, hy⟩ := hd f (by simp)
      obtain ⟨a, g1, g2, g3⟩ := Rd.rd h2 hy
      obtain ⟨b, k1, k2, k3⟩ := RdS.rd h3 fun f' hf' => hd f' (List.mem_cons_of_mem _ hf')
      rw [h1, Rd.size h2] at g1 g2
      have e : (cs.drop off).take (Cel.n α + Cel.n β) = (cs.drop off).take (Cel.n α) ++ (cs.drop (off + Cel.n α)).take (Cel.n β) := by
        rw [List.take_add, List.drop_drop]
      refine ⟨(a, b), ?_, ?_, g3, k3⟩
      · show VRels _ (Cel.c a ++ Cel.c b) (List.take (Cel.n α + Cel.n β) _)
        rw [e]
        exact g1.append k1
      · intro v hv
        change v ∈ List.take (Cel.n α + Cel.n β) _ at hv
        rw [e] at hv
        rcases List.mem_append.1 hv with hv | hv
        · exact g2 v hv
        · exact k2 v hv
def isStruct (P : Program) (t : TypeId) (n : Nat) (el : List Field → Bool) : Bool := (match P.underlying t with | some (.struct fs) => el fs.toList | _ => false) && P.cellsOf t == n
theorem isStruct_spec {P : Program} {t : TypeId} {n : Nat} {el : List Field → Bool} (h : isStruct P t n el = true) : ∃ fs, P.underlying t = some (.struct fs) ∧ el fs.toList = true ∧ P.cellsOf t = n := by
  simp only [isStruct, Bool.and_eq_true, beq_iff_eq] at h
  have := h.1
  split at this
  · rename_i fs he; exact ⟨fs, he, this, h.2⟩
  · cases this
@[reducible] def Rd.struct {α β : Type} [Cel β] [RdS β] (f : α → β) (g : β → α) (h : ∀ x, g (f x) = x) (h' : ∀ y, f (g y) = y) (ha : Cel.agg β = true) : letI := Cel.iso f g h h'; Rd α :=
  letI := Cel.iso f g h h'
  { fits := fun P t => isStruct P t (Cel.n β) fun fs => RdS.fits β P fs 0
    wf := fun x => RdS.wf (f x)
    size := fun h => by
      obtain ⟨fs, h1, h2, h3⟩ := isStruct_spec h
      exact h3
    top := fun h hv => by
      obtain ⟨fs, h1, h2, h3⟩ := isStruct_spec h
      obtain ⟨cs, rfl, _⟩ := okWide_struct h1 hv
      exact ha.symm
    rd := fun {H enc P W fuel t cs x} hh hd => by
      obtain ⟨fs, h1, h2, h3⟩ := isStruct_spec hh
      obtain ⟨xs, n, _, _, hl, hxl, hfl⟩ := DataW.trod_struct h1 hd
      obtain ⟨b, k1, k2, k3⟩ := RdS.rd (α := β) (enc := enc) (W := W) (fuel := n) (cs := cs) h2 fun fl hf => by
        obtain ⟨i, hi⟩ := List.getElem?_of_mem hf
        have := hfl i fl (by simpa using hi)
        have hlt := (List.getElem?_eq_some_iff.1 hi).1
        rw [List.getElem?_eq_getElem (by simp at hlt; omega)] at this
        exact ⟨_, this⟩
      have e : (cs.drop 0).take (Cel.n β) = cs := by rw [List.drop_zero, List.take_of_length_le (by omega)]
      rw [e] at k1 k2
      refine ⟨g b, ?_, k2, by rw [h']; exact k3⟩
      show VRels _ (Cel.c (f (g b))) cs
      rw [h']
      exact k1 }
end Go.Proofs.Ytnjpfoblmomnlaa.Sx
