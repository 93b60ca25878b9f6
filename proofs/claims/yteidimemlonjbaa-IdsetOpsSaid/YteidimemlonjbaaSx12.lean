/- That == between structs and arrays of numbers and bools is == of their cells. No conditions: a kit of our own. -/
import Derived.Test.YteidimemlonjbaaSx11
import Derived.ChangeKeysEq
import Derived.Laws.StructEq
namespace Go.Proofs.Yteidimemlonjbaa.Sx
open Go Go.RowKit
set_option linter.unusedVariables false
set_option linter.unusedSimpArgs false

def fieldLeafs (P : Program) (rec : TypeId → Option (List Bool)) : List Field → Nat → Option (List Bool)
  | [], _ => some []
  | f :: fs, off => if f.offset == off && !(f.name == "_") then (match rec f.type with
      | some ks => if sizeIs P f.type ks.length then (match fieldLeafs P rec fs (off + ks.length) with | some js => some (ks ++ js) | none => none) else none
      | none => none) else none
/-- A type of numbers and bools alone: which of its cells are bools. -/
def leafs (P : Program) : Nat → TypeId → Option (List Bool)
  | 0, _ => none
  | d + 1, t => match P.underlying t with
    | some (.int _) => some [false]
    | some .bool => some [true]
    | some (.struct fs) => if P.stoodInHeld t then none else fieldLeafs P (leafs P d) fs.toList 0
    | some (.array n e) => (match leafs P d e with | some ks => if sizeIs P e ks.length then some (List.replicate n ks).flatten else none | none => none)
    | _ => none

inductive LeafRel : List Bool → List Value → List Value → Bool → Prop
  | nil : LeafRel [] [] [] true
  | int {ks : List Bool} {xs ys : List Value} {r : Bool} (k : IntKind) (m n : Int) (h : LeafRel ks xs ys r) : LeafRel (false :: ks) (.int k m :: xs) (.int k n :: ys) (decide (m = n) && r)
  | bool {ks : List Bool} {xs ys : List Value} {r : Bool} (p q : Bool) (h : LeafRel ks xs ys r) : LeafRel (true :: ks) (.bool p :: xs) (.bool q :: ys) ((p == q) && r)

theorem LeafRel.len {ks : List Bool} {xs ys : List Value} {r : Bool} (h : LeafRel ks xs ys r) : xs.length = ks.length ∧ ys.length = ks.length := by
  induction h with
  | nil => exact ⟨rfl, rfl⟩
  | int k m n h ih => simp [ih.1, ih.2]
  | bool p q h ih => simp [ih.1, ih.2]
theorem LeafRel.split : ∀ (k1 : List Bool) {k2 : List Bool} {xs ys : List Value} {r : Bool}, LeafRel (k1 ++ k2) xs ys r → ∃ x1 x2 y1 y2 r1 r2, xs = x1 ++ x2 ∧ ys = y1 ++ y2 ∧ LeafRel k1 x1 y1 r1 ∧ LeafRel k2 x2 y2 r2 ∧ r = (r1 && r2)
  | [], k2, xs, ys, r, h => ⟨[], xs, [], ys, true, r, rfl, rfl, .nil, h, by simp⟩
  | b :: k1, k2, xs, ys, r, h => by
    cases h with
    | int k m n h =>
      obtain ⟨x1, x2, y1, y2, r1, r2, rfl, rfl, h1, h2, rfl⟩ := LeafRel.split k1 h
      exact ⟨_, x2, _, y2, _, r2, rfl, rfl, .int k m n h1, h2, by rw [Bool.and_assoc]⟩
    | bool p q h =>
      obtain ⟨x1, x2, y1, y2, r1, r2, rfl, rfl, h1, h2, rfl⟩ := LeafRel.split k1 h
      exact ⟨_, x2, _, y2, _, r2, rfl, rfl, .bool p q h1, h2, by rw [Bool.and_assoc]⟩

/-- A value of a type, out of its cells. -/
def pack (P : Program) (t : TypeId) (xs : List Value) : Value := match P.underlying t with
  | some (.struct _) | some (.array _ _) => .agg xs.toArray
  | _ => xs.getD 0 undef

section
variable {P : Program}
theorem run_part_pack (t : TypeId) (pre xs post : List Value) (h : sizeIs P t xs.length = true) (hu : ∃ d, P.underlying t = some d) (h1 : (∀ fs, P.underlying t ≠ some (.struct fs)) → (∀ n e, P.underlying t ≠ some (.array n e)) → xs.length = 1) (w : World) :
    (part t (pre ++ xs ++ post).toArray pre.length).run P w = .ok (pack P t xs) w := by
  obtain ⟨d, hd⟩ := hu
  have hex : ((pre ++ xs ++ post).toArray.extract pre.length (pre.length + xs.length)) = xs.toArray := by
    apply Array.ext'
    simp [List.extract_eq_take_drop]
  have hone : (∀ fs, d ≠ .struct fs) → (∀ n e, d ≠ .array n e) → (pre ++ xs ++ post)[pre.length]? = some (xs.getD 0 undef) := fun a b => by
    have hl := h1 (fun fs e => a fs (by rw [hd] at e; cases e; rfl)) (fun n e e' => b n e (by rw [hd] at e'; cases e'; rfl))
    match xs, hl with
    | [x], _ => simp
  cases d <;> first
    | (simp [part, isAgg, run_underlying hd, pack, hd, run_sizeOf h, hex]; done)
    | (have := hone (fun _ e => by cases e) (fun _ _ e => by cases e)
       simp [part, isAgg, run_underlying hd, pack, hd] at this ⊢
       simp [this])

theorem leafs_one {d : Nat} {t : TypeId} {ks : List Bool} (h : leafs P d t = some ks) : (∃ q, P.underlying t = some q) ∧ ((∀ fs, P.underlying t ≠ some (.struct fs)) → (∀ n e, P.underlying t ≠ some (.array n e)) → ks.length = 1) := by
  cases d with
  | zero => simp [leafs] at h
  | succ d =>
    unfold leafs at h
    split at h <;> rename_i hu
    · cases h; exact ⟨⟨_, hu⟩, fun _ _ => rfl⟩
    · cases h; exact ⟨⟨_, hu⟩, fun _ _ => rfl⟩
    · exact ⟨⟨_, hu⟩, fun a _ => absurd hu (a _)⟩
    · exact ⟨⟨_, hu⟩, fun _ b => absurd hu (b _ _)⟩
    · cases h

theorem eqFields_leafs {d D : Nat} (ih : ∀ t ks, leafs P d t = some ks → ∀ xs ys r, LeafRel ks xs ys r → ∀ w, (Op.equalIn D t (pack P t xs) (pack P t ys)).run P w = .ok r w) :
    ∀ (fs : List Field) (off : Nat) (ks : List Bool), fieldLeafs P (leafs P d) fs off = some ks → ∀ (px py xs ys : List Value) (r : Bool), px.length = off → py.length = off → LeafRel ks xs ys r → ∀ w,
      (Op.eqFields D (px ++ xs).toArray (py ++ ys).toArray fs).run P w = .ok r w
  | [], off, ks, h, px, py, xs, ys, r, _, _, hr, w => by
    simp [fieldLeafs] at h
    subst h
    cases hr
    simp [Op.eqFields]
  | f :: fs, off, ks, h, px, py, xs, ys, r, hpx, hpy, hr, w => by
    simp only [fieldLeafs] at h
    split at h
    · rename_i hf
      simp only [Bool.and_eq_true, beq_iff_eq, Bool.not_eq_true', beq_eq_false_iff_ne] at hf
      obtain ⟨hoff, hname⟩ := hf
      split at h
      · rename_i k1 hk1
        split at h
        · rename_i hs
          split at h
          · rename_i k2 hk2
            cases h
            obtain ⟨x1, x2, y1, y2, r1, r2, rfl, rfl, h1, h2, rfl⟩ := LeafRel.split k1 hr
            have l1 := h1.len
            obtain ⟨hu, hone⟩ := leafs_one hk1
            have p1 := run_part_pack f.type px x1 x2 (by rw [l1.1]; exact hs) hu (fun a b => by rw [l1.1]; exact hone a b) w
            have p2 := run_part_pack f.type py y1 y2 (by rw [l1.2]; exact hs) hu (fun a b => by rw [l1.2]; exact hone a b) w
            have e := ih f.type k1 hk1 x1 y1 r1 h1 w
            have rest := eqFields_leafs ih fs (off + k1.length) k2 hk2 (px ++ x1) (py ++ y1) x2 y2 r2 (by simp [hpx, l1.1]) (by simp [hpy, l1.2]) h2 w
            rw [hpx, ← hoff] at p1
            rw [hpy, ← hoff] at p2
            simp only [List.append_assoc] at p1 p2 rest
            rw [Op.eqFields]
            rw [if_pos hname]
            simp only [Sem.run_bind, p1, p2, e, Result.andThen_ok]
            cases r1
            · simp
            · simp [rest]
          · cases h
        · cases h
      · cases h
    · cases h

theorem eqItems_leafs {d D : Nat} {e : TypeId} {ks : List Bool} (hk : leafs P d e = some ks) (hs : sizeIs P e ks.length = true) (ih : ∀ xs ys r, LeafRel ks xs ys r → ∀ w, (Op.equalIn D e (pack P e xs) (pack P e ys)).run P w = .ok r w) :
    ∀ (n i0 : Nat) (px py xs ys : List Value) (r : Bool), px.length = i0 * ks.length → py.length = i0 * ks.length → LeafRel (List.replicate n ks).flatten xs ys r → ∀ w,
      (Op.eqItems D e ks.length (px ++ xs).toArray (py ++ ys).toArray (List.range' i0 n)).run P w = .ok r w
  | 0, i0, px, py, xs, ys, r, _, _, hr, w => by
    simp at hr
    cases hr
    simp [Op.eqItems]
  | n + 1, i0, px, py, xs, ys, r, hpx, hpy, hr, w => by
    rw [List.replicate_succ, List.flatten_cons] at hr
    obtain ⟨x1, x2, y1, y2, r1, r2, rfl, rfl, h1, h2, rfl⟩ := LeafRel.split ks hr
    have l1 := h1.len
    obtain ⟨hu, hone⟩ := leafs_one hk
    have p1 := run_part_pack e px x1 x2 (by rw [l1.1]; exact hs) hu (fun a b => by rw [l1.1]; exact hone a b) w
    have p2 := run_part_pack e py y1 y2 (by rw [l1.2]; exact hs) hu (fun a b => by rw [l1.2]; exact hone a b) w
    have ee := ih x1 y1 r1 h1 w
    have rest := eqItems_leafs hk hs ih n (i0 + 1) (px ++ x1) (py ++ y1) x2 y2 r2 (by simp [hpx, l1.1, Nat.succ_mul]) (by simp [hpy, l1.2, Nat.succ_mul]) h2 w
    rw [hpx] at p1
    rw [hpy] at p2
    simp only [List.append_assoc] at p1 p2 rest
    rw [List.range'_succ, Op.eqItems]
    simp only [Sem.run_bind, p1, p2, ee, Result.andThen_ok]
    cases r1
    · simp
    · simp [rest]

theorem eqIn_leafs : ∀ (d : Nat) (t : TypeId) (ks : List Bool), leafs P d t = some ks → ∀ (D : Nat), d ≤ D → ∀ xs ys r, LeafRel ks xs ys r → ∀ w, (Op.equalIn D t (pack P t xs) (pack P t ys)).run P w = .ok r w
  | 0, t, ks, h, _, _, _, _, _, _, _ => by simp [leafs] at h
  | d + 1, t, ks, h, 0, hD, _, _, _, _, _ => by omega
  | d + 1, t, ks, h, D + 1, hD, xs, ys, r, hr, w => by
    have ih := fun t ks h => eqIn_leafs d t ks h D (by omega)
    unfold leafs at h
    split at h <;> rename_i hu
    · cases h
      cases hr with
      | int k m n h =>
        cases h
        simp [pack, hu, run_equalIn_int (P := P) w D t k _ m n hu]
        rfl
    · cases h
      cases hr with
      | bool p q h =>
        cases h
        simp [pack, hu, run_equalIn_bool (P := P) w D t p q hu]
    · split at h
      · cases h
      · rename_i fs hst
        have hf : P.fieldsOf t = fs := by simp [Program.fieldsOf, hu]
        have hst' : P.stoodInHeld t = false := by simpa using hst
        simp only [pack, hu]
        rw [run_equalIn_struct (P := P) w D t _ _ (by rw [hf]; exact hu) hst', hf]
        have := eqFields_leafs ih fs.toList 0 ks h [] [] xs ys r rfl rfl hr w
        simpa using this
    · split at h
      · rename_i n e ok k1 hk1
        split at h
        · rename_i hs
          cases h
          obtain ⟨i, hi, his⟩ := sizeIs_run hs
          have hc : P.cellsOf e = k1.length := by simp [Program.cellsOf, hi, his]
          simp only [pack, hu]
          rw [run_equalIn_array w D _ _ hu hi, hc, List.range_eq_range']
          have := eqItems_leafs hk1 hs (ih e k1 hk1) n 0 [] [] xs ys r (by simp) (by simp) hr w
          simpa using this
        · cases h
      · cases h
    · cases h

def eqcIs (P : Program) (t : TypeId) (ks : List Bool) : Bool := decide (leafs P 20 t = some ks) && !P.eqGuardType P.depth t && (match P.underlying t with | some (.struct _) | some (.array _ _) => true | _ => false)

theorem eqCells_some : ∀ {ks : List Bool} {a b : List AV} {k : Bool → Prop}, eqCells ks a b k → ∃ r, k r ∧ ∀ E (vs ws : List Value), VRels E a vs → VRels E b ws → LeafRel ks vs ws r
  | [], [], [], k, h => ⟨true, h, fun E vs ws h1 h2 => by
      have := h1.len; have := h2.len
      match vs, ws with
      | [], [] => exact .nil⟩
  | false :: ks, .int x m :: as, .int y n :: bs, k, h => by
    obtain ⟨rfl, h⟩ := h
    obtain ⟨r, h1, h2⟩ := eqCells_some h
    refine ⟨_, h1, fun E vs ws h3 h4 => ?_⟩
    have l3 := h3.len
    have l4 := h4.len
    match vs, ws, l3, l4 with
    | v :: vs, w :: ws, l3, l4 =>
      have e1 := (h3.at_ 0 _ v rfl rfl).int_inv
      have e2 := (h4.at_ 0 _ w rfl rfl).int_inv
      subst e1
      subst e2
      exact .int x m n (h2 E vs ws ⟨by simpa using l3, fun i a v ha hv => h3.at_ (i + 1) a v (by simpa using ha) (by simpa using hv)⟩ ⟨by simpa using l4, fun i a v ha hv => h4.at_ (i + 1) a v (by simpa using ha) (by simpa using hv)⟩)
  | true :: ks, .bool p :: as, .bool q :: bs, k, h => by
    have h : eqCells ks as bs (fun r => k ((p == q) && r)) := h
    obtain ⟨r, h1, h2⟩ := eqCells_some h
    refine ⟨_, h1, fun E vs ws h3 h4 => ?_⟩
    have l3 := h3.len
    have l4 := h4.len
    match vs, ws, l3, l4 with
    | v :: vs, w :: ws, l3, l4 =>
      have e1 := (h3.at_ 0 _ v rfl rfl).bool_inv
      have e2 := (h4.at_ 0 _ w rfl rfl).bool_inv
      subst e1
      subst e2
      exact .bool p q (h2 E vs ws ⟨by simpa using l3, fun i a v ha hv => h3.at_ (i + 1) a v (by simpa using ha) (by simpa using hv)⟩ ⟨by simpa using l4, fun i a v ha hv => h4.at_ (i + 1) a v (by simpa using ha) (by simpa using hv)⟩)

variable {o : Oper} {r : Opd → AV} {H : List AObj}
theorem ok_eqc {neg : Bool} {t u : TypeId} {x y : Operand} {x' y' : Opd} {ks : List Bool} {a b : List AV} {k : Bool → Prop} (ho : o.op = .binOp (if neg then .neq else .eql) t x y u) (ht : eqcIs P t ks = true) (hx : opdOk x x' = true) (hy : opdOk y y' = true)
    (h1 : r x' = .agg a) (h2 : r y' = .agg b) (h : eqCells ks a b k) : ∃ z, OpOk P o r H (Is (.bool (if neg then !z else z)) H) ∧ k z := by
  obtain ⟨z, hz, hrel⟩ := eqCells_some h
  refine ⟨z, .val fun E a' hr hH => ?_, hz⟩
  simp only [eqcIs, Bool.and_eq_true, decide_eq_true_eq, Bool.not_eq_true'] at ht
  obtain ⟨⟨hl, hg⟩, hagg⟩ := ht
  have e1 := hr.at_ (x := x) (by simp [ho, Op.operands]) hx
  have e2 := hr.at_ (x := y) (by simp [ho, Op.operands]) hy
  rw [h1] at e1
  rw [h2] at e2
  obtain ⟨vs, hv, l1, _, f1⟩ := e1.agg_inv
  obtain ⟨ws, hw, l2, _, f2⟩ := e2.agg_inv
  have hpk : ∀ l, pack P t l = .agg l.toArray := fun l => by
    unfold pack
    split at hagg <;> rename_i hu
    · simp [hu]
    · simp [hu]
    · cases hagg
  have heq := eqIn_leafs 20 t ks hl 10000 (by omega) vs ws z (hrel E vs ws ⟨l1, f1⟩ ⟨l2, f2⟩) E.w
  rw [hpk, hpk] at heq
  cases neg
  · exact ⟨.bool z, by simp at ho; simp [execOp, ho, hv, hw, run_eqGuard_agg (P := P) E.w _ t _ _ _ _ hg, run_eql_struct, heq], .bool _⟩
  · exact ⟨.bool (!z), by simp at ho; simp [execOp, ho, hv, hw, run_eqGuard_agg (P := P) E.w _ t _ _ _ _ hg, run_neq_struct, heq], .bool _⟩
end
end Go.Proofs.Yteidimemlonjbaa.Sx
