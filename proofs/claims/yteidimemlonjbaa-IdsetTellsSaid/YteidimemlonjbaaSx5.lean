/- That further operations do what the small language says: comparisons with nil, of bools and of structs; conversions; parts of tuples; functions as values; lengths; cuts. No conditions: a kit of our own. -/
import Derived.Test.YteidimemlonjbaaSx4
namespace Go.Proofs.Yteidimemlonjbaa.Sx
open Go Go.RowKit
set_option linter.unusedVariables false
set_option linter.unusedSimpArgs false
section
variable {P : Program} {o : Oper} {r : Opd → AV} {H : List AObj}

theorem ok_eqb {neg : Bool} {t u : TypeId} {x y : Operand} {x' y' : Opd} {p q : Bool} (ho : o.op = .binOp (if neg then .neq else .eql) t x y u) (ht : P.underlying t = some .bool) (hx : opdOk x x' = true) (hy : opdOk y y' = true)
    (h1 : r x' = .bool p) (h2 : r y' = .bool q) : OpOk P o r H (Is (.bool (if neg then p != q else p == q)) H) :=
  .val fun E a hr hH => by
    have e1 := hr.at_ (x := x) (by simp [ho, Op.operands]) hx
    have e2 := hr.at_ (x := y) (by simp [ho, Op.operands]) hy
    rw [h1] at e1
    rw [h2] at e2
    have e1 := e1.bool_inv
    have e2 := e2.bool_inv
    cases neg
    · exact ⟨.bool (p == q), by simp at ho; simp [execOp, ho, e1, e2, eqGuard_at_bool, run_eql_bool, ht], .bool _⟩
    · exact ⟨.bool (p != q), by simp at ho; simp [execOp, ho, e1, e2, eqGuard_at_bool, run_neq_bool, ht]; cases p <;> cases q <;> rfl, .bool _⟩

/-- 't' is a type with a nil, which y is. -/
def nilIs (P : Program) (t : TypeId) (y : Operand) : Bool := match P.underlying t, y with
  | some (.pointer _), .const (.pointer none) | some (.slice _), .const (.slice none 0 0) | some (.map _ _), .const (.map none) | some (.func _ _ _), .const .nilFunc => true
  | _, _ => false
/-- Is it nil? -/
def isNil : Value → Bool
  | .pointer none | .slice none _ _ | .map none | .nilFunc => true
  | _ => false
def fitsNil : TypeDesc → Value → Bool
  | .pointer _, .pointer _ | .slice _, .slice _ _ _ | .map _ _, .map _ | .func _ _ _, .nilFunc | .func _ _ _, .func _ _ _ => true
  | _, _ => false
theorem eqIn_ptr (D : Nat) (t e : TypeId) (q : Option Addr) (h : P.underlying t = some (.pointer e)) (w : World) : (Op.equalIn (D + 1) t (.pointer q) (.pointer none)).run P w = .ok q.isNone w := by
  cases q <;> simp [Op.equalIn, run_underlying h]
theorem eqIn_sl (D : Nat) (t e : TypeId) (q : Option Addr) (m c : Nat) (h : P.underlying t = some (.slice e)) (w : World) : (Op.equalIn (D + 1) t (.slice q m c) (.slice none 0 0)).run P w = .ok q.isNone w := by
  cases q <;> simp [Op.equalIn, run_underlying h]
theorem eqIn_map (D : Nat) (t e f : TypeId) (q : Option Nat) (h : P.underlying t = some (.map e f)) (w : World) : (Op.equalIn (D + 1) t (.map q) (.map none)).run P w = .ok q.isNone w := by
  cases q <;> simp [Op.equalIn, run_underlying h]
theorem eqIn_fn (D : Nat) (t : TypeId) {ps rs : Array TypeId} {vr : Bool} (f : Fn) (a b : Array Value) (h : P.underlying t = some (.func ps rs vr)) (w : World) : (Op.equalIn (D + 1) t (.func f a b) .nilFunc).run P w = .ok false w := by
  simp [Op.equalIn, run_underlying h]
theorem eqIn_fn0 (D : Nat) (t : TypeId) {ps rs : Array TypeId} {vr : Bool} (h : P.underlying t = some (.func ps rs vr)) (w : World) : (Op.equalIn (D + 1) t .nilFunc .nilFunc).run P w = .ok true w := by
  simp [Op.equalIn, run_underlying h]

theorem run_equal_nil {t : TypeId} {y : Operand} {a : Act} {v : Value} {d : TypeDesc} (hd : P.underlying t = some d) (h : nilIs P t y = true) (hv : fitsNil d v = true) (w : World) :
    (Op.equal t v (a.eval y)).run P w = .ok (isNil v) w ∧ (∀ x, eqGuard .eql t x y v (a.eval y) = pure ()) ∧ (∀ x, eqGuard .neq t x y v (a.eval y) = pure ()) ∧
    (binOp .eql t v (a.eval y)).run P w = .ok (.bool (isNil v)) w ∧ (binOp .neq t v (a.eval y)).run P w = .ok (.bool (!isNil v)) w := by
  have key : (Op.equal t v (a.eval y)).run P w = .ok (isNil v) w → (binOp .eql t v (a.eval y) = do pure (.bool (← Op.equal t v (a.eval y)))) → (binOp .neq t v (a.eval y) = do pure (.bool (!(← Op.equal t v (a.eval y))))) →
      (binOp .eql t v (a.eval y)).run P w = .ok (.bool (isNil v)) w ∧ (binOp .neq t v (a.eval y)).run P w = .ok (.bool (!isNil v)) w := by
    intro h1 h2 h3
    rw [h2, h3]
    simp [h1]
  unfold nilIs at h
  rw [hd] at h
  cases d <;> cases y <;> first | (cases h; done) | skip
  all_goals (rename_i c; cases c <;> first | (cases h; done) | skip)
  · rename_i e p
    cases p <;> simp at h
    cases v <;> simp [fitsNil] at hv
    rename_i q
    have e1 : (Op.equal t (.pointer q) (.pointer none)).run P w = .ok (isNil (.pointer q)) w := by
      rw [show isNil (.pointer q) = q.isNone from by cases q <;> rfl]
      exact eqIn_ptr 9999 t e q hd w
    exact ⟨e1, fun _ => rfl, fun _ => rfl, key e1 (by cases q <;> rfl) (by cases q <;> rfl)⟩
  · rename_i e p n c
    cases v <;> simp [fitsNil] at hv
    rename_i q m c'
    have hc : (Act.eval a (.const (.slice p n c))) = .slice none 0 0 := by
      cases p <;> simp at h
      cases n <;> cases c <;> simp at h
      rfl
    rw [hc]
    rw [hc] at key
    have e1 : (Op.equal t (.slice q m c') (.slice none 0 0)).run P w = .ok (isNil (.slice q m c')) w := by
      rw [show isNil (.slice q m c') = q.isNone from by cases q <;> rfl]
      exact eqIn_sl 9999 t e q m c' hd w
    exact ⟨e1, fun _ => rfl, fun _ => rfl, key e1 rfl rfl⟩
  · rename_i e f p
    cases p <;> simp at h
    cases v <;> simp [fitsNil] at hv
    rename_i q
    have e1 : (Op.equal t (.map q) (.map none)).run P w = .ok (isNil (.map q)) w := by
      rw [show isNil (.map q) = q.isNone from by cases q <;> rfl]
      exact eqIn_map 9999 t e f q hd w
    exact ⟨e1, fun _ => rfl, fun _ => rfl, key e1 rfl rfl⟩
  · have e1 : (Op.equal t v .nilFunc).run P w = .ok (isNil v) w := by
      cases v <;> simp [fitsNil] at hv
      · exact eqIn_fn 9999 t _ _ _ hd w
      · exact eqIn_fn0 9999 t hd w
    cases v <;> simp [fitsNil] at hv
    · exact ⟨e1, fun _ => rfl, fun _ => rfl, key e1 rfl rfl⟩
    · exact ⟨e1, fun _ => rfl, fun _ => rfl, key e1 rfl rfl⟩

def nilKd (P : Program) (t : TypeId) : NilK → Bool
  | .p => (match P.underlying t with | some (.pointer _) => true | _ => false)
  | .s => (match P.underlying t with | some (.slice _) => true | _ => false)
  | .m => (match P.underlying t with | some (.map _ _) => true | _ => false)
  | .f => (match P.underlying t with | some (.func _ _ _) => true | _ => false)
/-- What of a value tells whether it is nil. -/
inductive NilV (H : List AObj) : NilK → AV → Bool → Prop
  | nilp : NilV H .p .nilp true
  | nils : NilV H .s .nils true
  | nilm : NilV H .m .nilm true
  | nilf : NilV H .f (.val .nilFunc) true
  | ptr {id i off : Nat} {o : AObj} (h : H[id]? = some o) (hd : o ≠ .dead) : NilV H .p (.ptr id i off) false
  | sl {id i n : Nat} {o : AObj} (h : H[id]? = some o) (hd : o ≠ .dead) : NilV H .s (.sl id i n) false
  | map {id : Nat} {o : AObj} (h : H[id]? = some o) (hd : o ≠ .dead) : NilV H .m (.map id) false
  | vp {row : List AV} {off : Nat} : NilV H .p (.vp row off) false
  | fn {f : FuncId} {a b : List AV} : NilV H .f (.fn f a b) false
  | view {es : List (List AV)} (h : es ≠ []) : NilV H .s (.view es) false

theorem ok_eqnil {neg : Bool} {kd : NilK} {t u : TypeId} {x y : Operand} {x' : Opd} {b : Bool} (ho : o.op = .binOp (if neg then .neq else .eql) t x y u) (ht : nilKd P t kd = true) (hy : nilIs P t y = true) (hx : opdOk x x' = true)
    (hn : NilV H kd (r x') b) : OpOk P o r H (Is (.bool (if neg then !b else b)) H) :=
  .val fun E a hr hH => by
    have e1 := hr.at_ (x := x) (by simp [ho, Op.operands]) hx
    generalize r x' = av at *
    have key : ∀ d v, P.underlying t = some d → a.eval x = v → fitsNil d v = true → isNil v = b → ∃ v, (execOp a.eval o).run P E.w = .ok (.value v) E.w ∧ VRel E (.bool (if neg then !b else b)) v := by
      intro d v hd hv hf hb
      obtain ⟨h1, h2, h3, h4, h5⟩ := run_equal_nil hd hy hf E.w (a := a)
      subst hb
      cases neg
      · exact ⟨.bool (isNil v), by simp at ho; simp [execOp, ho, hv, h2, h4], .bool _⟩
      · exact ⟨.bool (!isNil v), by simp at ho; simp [execOp, ho, hv, h3, h5], .bool _⟩
    have nk : ∃ d, P.underlying t = some d ∧ (kd = .p → ∃ e, d = .pointer e) ∧ (kd = .s → ∃ e, d = .slice e) ∧ (kd = .m → ∃ e f, d = .map e f) ∧ (kd = .f → ∃ ps rs vr, d = .func ps rs vr) := by
      cases hd : P.underlying t with
      | none => cases kd <;> simp [nilKd, hd] at ht
      | some d => cases kd <;> cases d <;> simp [nilKd, hd] at ht <;> first | (simp; done) | exact ⟨_, rfl, by simp, by simp, by simp, fun _ => ⟨_, _, _, rfl⟩⟩
    obtain ⟨d, hd, k1, k2, k3, k4⟩ := nk
    generalize hv : a.eval x = v at *
    cases hn with
    | nilp => obtain ⟨e, rfl⟩ := k1 rfl; cases e1; exact key _ _ hd rfl rfl rfl
    | nils => obtain ⟨e, rfl⟩ := k2 rfl; cases e1; exact key _ _ hd rfl rfl rfl
    | nilm => obtain ⟨e, f, rfl⟩ := k3 rfl; cases e1; exact key _ _ hd rfl rfl rfl
    | nilf => obtain ⟨_, _, _, rfl⟩ := k4 rfl; cases e1; exact key _ _ hd rfl rfl rfl
    | ptr h hd' => obtain ⟨e, rfl⟩ := k1 rfl; obtain ⟨l, _, rfl, _⟩ := e1.ptr_inv hH h hd'; exact key _ _ hd rfl rfl rfl
    | sl h hd' => obtain ⟨e, rfl⟩ := k2 rfl; obtain ⟨l, cap, _, rfl, _⟩ := e1.sl_inv hH h hd'; exact key _ _ hd rfl rfl rfl
    | map h hd' =>
      obtain ⟨e, f, rfl⟩ := k3 rfl
      obtain ⟨l, hl, _⟩ := hH.get h hd'
      cases e1 with | map _ _ h => have := h l hl; subst this; exact key _ _ hd rfl rfl rfl
    | vp => obtain ⟨e, rfl⟩ := k1 rfl; obtain ⟨_, _, rfl, _⟩ := e1.vp_inv; exact key _ _ hd rfl rfl rfl
    | fn => obtain ⟨_, _, _, rfl⟩ := k4 rfl; obtain ⟨_, _, rfl, _⟩ := e1.fn_inv; exact key _ _ hd rfl rfl rfl
    | view h =>
      obtain ⟨e, rfl⟩ := k2 rfl
      cases e1 with
      | view0 => exact absurd rfl h
      | view => exact key _ _ hd rfl rfl rfl
/-- A slice that nobody writes, of no elements: nil or not. -/
theorem run_eqnil0 {neg : Bool} {t u : TypeId} {x y : Operand} {x' : Opd} {K : AV → List AObj → Prop} (ho : o.op = .binOp (if neg then .neq else .eql) t x y u) (ht : nilKd P t .s = true) (hy : nilIs P t y = true) (hx : opdOk x x' = true)
    (hr' : r x' = .view []) (hK : ∀ b, K (.bool b) H) : OpOk P o r H K :=
  .pure fun E a hr hH => by
    have e1 := hr.at_ (x := x) (by simp [ho, Op.operands]) hx
    rw [hr'] at e1
    cases hd : P.underlying t with
    | none => simp [nilKd, hd] at ht
    | some d =>
      cases d <;> simp [nilKd, hd] at ht
      have hf : ∃ q n c, a.eval x = .slice q n c := by
        generalize a.eval x = v at e1
        cases e1 <;> exact ⟨_, _, _, rfl⟩
      obtain ⟨q, n, c, hv⟩ := hf
      obtain ⟨h1, h2, h3, h4, h5⟩ := run_equal_nil hd hy (v := .slice q n c) rfl E.w (a := a)
      cases neg
      · exact ⟨.bool (isNil (.slice q n c)), _, by simp at ho; simp [execOp, ho, hv, h2, h4], .bool _, hK _⟩
      · exact ⟨.bool (!isNil (.slice q n c)), _, by simp at ho; simp [execOp, ho, hv, h3, h5], .bool _, hK _⟩
end
end Go.Proofs.Yteidimemlonjbaa.Sx
