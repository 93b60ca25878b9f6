/- That further operations do what the small language says: comparisons with nil, of bools and of structs; conversions; parts of tuples; functions as values; lengths; cuts. No conditions: a kit of our own. -/
import Derived.Test.YtnjpfoblmomnlaaSx4
namespace Go.Proofs.Ytnjpfoblmomnlaa.Sx
open Go Go.RowKit
set_option linter.unusedVariables false
set_option linter.unusedSimpArgs false
section
variable {P : Program} {o : Oper} {r : Opd → AV} {H : List AObj}

theorem ok_eqb {neg : Bool} {t u : TypeId} {x y : Operand} {x' y' : Opd} {p q : Bool} (ho : o.op = .binOp (if neg then .neq else .eql) t x y u) (ht : P.underlying t = some .bool) (hx : opdOk x x' = true) (hy : opdOk y y' = true)
    (h1 : r x' = .bool p) (h2 : r y' = .bool q) : OpOk P o r H (Is (.bool (if neg then p != q else p == q)) H) :=
  .val fun E a hr hH => by
    have e1 := hr.at_ (x := x) (by simp [ho, Op.operands]) hx
    have e2 := hr.at_ (x := y) (by simp [ho, Op.operands]) hy
    rw [h1] at e1
    rw [h2] at e2
    have e1 := e1.bool_inv
    have e2 := e2.bool_inv
    cases neg
    · exact ⟨.bool (p == q), by simp at ho; simp [execOp, ho, e1, e2, eqGuard_at_bool, run_eql_bool, ht], .bool _⟩
    · exact ⟨.bool (p != q), by simp at ho; simp [execOp, ho, e1, e2, eqGuard_at_bool, run_neq_bool, ht]; cases p <;> cases q <;> rfl, .bool _⟩

/-- 't' is a type with a nil, which y is. -/
def nilIs (P : Program) (t : TypeId) (y : Operand) : Bool := match P.underlying t, y with
  | some (.pointer _), .const (.pointer none) | some (.slice _), .const (.slice none 0 0) | some (.map _ _), .const (.map none) | some (.func _ _ _), .const .nilFunc => true
  | _, _ => false
/-- Is it nil? -/
def isNil : Value → Bool
  | .pointer none | .slice none _ _ | .map none | .nilFunc => true
  | _ => false
def fitsNil : TypeDesc → Value → Bool
  | .pointer _, .pointer _ | .slice _, .slice _ _ _ | .map _ _, .map _ | .func _ _ _, .nilFunc | .func _ _ _, .func _ _ _ => true
  | _, _ => false
theorem eqIn_ptr (D : Nat) (t e : TypeId) (q : Option Addr) (h : P.underlying t = some (.pointer e)) (w : World) : (Op.equalIn (D + 1) t (.pointer q) (.pointer none)).run P w = .ok q.isNone w := by
  cases q <;> simp [Op.equalIn, run_underlying h]
theorem eqIn_sl (D : Nat) (t e : TypeId) (q : Option Addr) (m c : Nat) (h : P.underlying t = some (.slice e)) (w : World) : (Op.equalIn (D + 1) t (.slice q m c) (.slice none 0 0)).run P w = .ok q.isNone w := by
  cases q <;> simp [Op.equalIn, run_underlying h]
theorem eqIn_map (D : Nat) (t e f : TypeId) (q : Option Nat) (h : P.underlying t = some (.map e f)) (w : World) : (Op.equalIn (D + 1) t (.map q) (.map none)).run P w = .ok q.isNone w := by
  cases q <;> simp [Op.equalIn, run_underlying h]
theorem eqIn_fn (D : Nat) (t : TypeId) {ps rs : Array TypeId} {vr : Bool} (f : Fn) (a b : Array Value) (h : P.underlying t = some (.func ps rs vr)) (w : World) : (Op.equalIn (D + 1) t (.func f a b) .nilFunc).run P w = .ok false w := by
  simp [Op.equalIn, run_underlying h]
theorem eqIn_fn0 (D : Nat) (t : TypeId) {ps rs : Array TypeId} {vr : Bool} (h : P.underlying t = some (.func ps rs vr)) (w : World) : (Op.equalIn (D + 1) t .nilFunc .nilFunc).run P w = .ok true w := by
  simp [Op.equalIn, run_underlying h]

theorem run_equal_nil {t : TypeId} {y : Operand} {a : Act} {v : Value} {d : TypeDesc} (hd : P.underlying t = some d) (h : nilIs P t y = true) (hv : fitsNil d v = true) (w : World) :
    (Op.equal t v (a.eval y)).run P w = .ok (isNil v) w ∧ (∀ x, eqGuard .eql t x y v (a.eval y) = pure ()) ∧ (∀ x, eqGuard .neq t x y v (a.eval y) = pure ()) ∧
    (binOp .eql t v (a.eval y)).run P w = .ok (.bool (isNil v)) w ∧ (binOp .neq t v (a.eval y)).run P w = .ok (.bool (!isNil v)) w := by
  have key : (Op.equal t v (a.eval y)).run P w = .ok (isNil v) w → (binOp .eql t v (a.eval y) = do pure (.bool (← Op.equal t v (a.eval y)))) → (binOp .neq t v (a.eval y) = do pure (.bool (!(← Op.equal t v (a.eval y))))) →
      (binOp .eql t v (a.eval y)).run P w = .ok (.bool (isNil v)) w ∧ (binOp .neq t v (a.eval y)).run P w = .ok (.bool (!isNil v)) w := by
    intro h1 h2 h3
    rw [h2, h3]
    simp [h1]
  unfold nilIs at h
  rw [hd] at h
  cases d <;> cases y <;> first | (cases h; done) | skip
  all_goals (rename_i c; cases c <;> first | (cases h; done) | skip)
  · rename_i e p
    cases p <;> simp at h
    cases v <;> simp [fitsNil] at hv
    rename_i q
    have e1 : (Op.equal t (.pointer q) (.pointer none)).run P w = .ok (isNil (.pointer q)) w := by
      rw [show isNil (.pointer q) = q.isNone from by cases q <;> rfl]
      exact eqIn_ptr 9999 t e q hd w
    exact ⟨e1, fun _ => rfl, fun _ => rfl, key e1 (by cases q <;> rfl) (by cases q <;> rfl)⟩
  · rename_i e p n c
    cases v <;> simp [fitsNil] at hv
    rename_i q m c'
    have hc : (Act.eval a (.const (.slice p n c))) = .slice none 0 0 := by
      cases p <;> simp at h
      cases n <;> cases c <;> simp at h
      rfl
    rw [hc]
    rw [hc] at key
    have e1 : (Op.equal t (.slice q m c') (.slice none 0 0)).run P w = .ok (isNil (.slice q m c')) w := by
      rw [show isNil (.slice q m c') = q.isNone from by cases q <;> rfl]
      exact eqIn_sl 9999 t e q m c' hd w
    exact ⟨e1, fun _ => rfl, fun _ => rfl, key e1 rfl rfl⟩
  · rename_i e f p
    cases p <;> simp at h
    cases v <;> simp [fitsNil] at hv
    rename_i q
    have e1 : (Op.equal t (.map q) (.map none)).run P w = .ok (isNil (.map q)) w := by
      rw [show isNil (.map q) = q.isNone from by cases q <;> rfl]
      exact eqIn_map 9999 t e f q hd w
    exact ⟨e1, fun _ => rfl, fun _ => rfl, key e1 rfl rfl⟩
  · have e1 : (Op.equal t v .nilFunc).run P w = .ok (isNil v) w := by
      cases v <;> simp [fitsNil] at hv
      · exact eqIn_fn 9999 t _ _ _ hd w
      · exact eqIn_fn0 9999 t hd w
    cases v <;> simp [fitsNil] at hv
    · exact ⟨e1, fun _ => rfl, fun _ => rfl, key e1 rfl rfl⟩
    · exact ⟨e1, fun _ => rfl, fun _ => rfl, key e1 rfl rfl⟩

def nilKd (P : Program) (t : TypeId) : NilK → Bool
  | .p => (match P.underlying t with | some (.pointer _) => true | _ => false)
  | .s => (match P.underlying t with | some (.slice _) => true | _ => false)
  | .m => (match P.underlying t with | some (.map _ _) => true | _ => false)
  | .f => (match P.underlying t with | some (.func _ _ _) => true | _ => false)
/-- What of a value tells whether it is nil. -/
inductive NilV (H : List AObj) : NilK → AV → Bool → Prop
  | nilp : NilV H .p .nilp true
  | nils : NilV H .s .nils true
  | nilm : NilV H .m .nilm true
  | nilf : NilV H .f (.val .nilFunc) true
  | ptr {id i off : Nat} {o : AObj} (h : H[id]? = some o) (hd : o ≠ .dead) : NilV H .p (.ptr id i off) false
  | sl {id i n : Nat} {o : AObj} (h : H[id]? = some o) (hd : o ≠ .dead) : NilV H .s (.sl id i n) false
  | map {id : Nat} {o : AObj} (h : H[id]? = some o) (hd : o ≠ .dead) : NilV H .m (.map id) false
  | vp {row : List AV} {off : Nat} : NilV H .p (.vp row off) false
  | fn {f : FuncId} {a b : List AV} : NilV H .f (.fn f a b) false
  | view {es : List (List AV)} (h : es ≠ []) : NilV H .s (.view es) false

theorem ok_eqnil {neg : Bool} {kd : NilK} {t u : TypeId} {x y : Operand} {x' : Opd} {b : Bool} (ho : o.op = .binOp (if neg then .neq else .eql) t x y u) (ht : nilKd P t kd = true) (hy : nilIs P t y = true) (hx : opdOk x x' = true)
    (hn : NilV H kd (r x') b) : OpOk P o r H (Is (.bool (if neg then !b else b)) H) :=
  .val fun E a hr hH => by
    have e1 := hr.at_ (x := x) (by simp [ho, Op.operands]) hx
    generalize r x' = av at *
    have key : ∀ d v, P.underlying t = some d → a.eval x = v → fitsNil d v = true → isNil v = b → ∃ v, (execOp a.eval o).run P E.w = .ok (.value v) E.w ∧ VRel E (.bool (if neg then !b else b)) v := by
      intro d v hd hv hf hb
      obtain ⟨h1, h2, h3, h4, h5⟩ := run_equal_nil hd hy hf E.w (a := a)
      subst hb
      cases neg
      · exact ⟨.bool (isNil v), by simp at ho; simp [execOp, ho, hv, h2, h4], .bool _⟩
      · exact ⟨.bool (!isNil v), by simp at ho; simp [execOp, ho, hv, h3, h5], .bool _⟩
    have nk : ∃ d, P.underlying t = some d ∧ (kd = .p → ∃ e, d = .pointer e) ∧ (kd = .s → ∃ e, d = .slice e) ∧ (kd = .m → ∃ e f, d = .map e f) ∧ (kd = .f → ∃ ps rs vr, d = .func ps rs vr) := by
      cases hd : P.underlying t with
      | none => cases kd <;> simp [nilKd, hd] at ht
      | some d => cases kd <;> cases d <;> simp [nilKd, hd] at ht <;> first | (simp; done) | exact ⟨_, rfl, by simp, by simp, by simp, fun _ => ⟨_, _, _, rfl⟩⟩
    obtain ⟨d, hd, k1, k2, k3, k4⟩ := nk
    generalize hv : a.eval x = v at *
    cases hn with
    | nilp => obtain ⟨e, rfl⟩ := k1 rfl; cases e1; exact key _ _ hd rfl rfl rfl
    | nils => obtain ⟨e, rfl⟩ := k2 rfl; cases e1; exact key _ _ hd rfl rfl rfl
    | nilm => obtain ⟨e, f, rfl⟩ := k3 rfl; cases e1; exact key _ _ hd rfl rfl rfl
    | nilf => obtain ⟨_, _, _, rfl⟩ := k4 rfl; cases e1; exact key _ _ hd rfl rfl rfl
    | ptr h hd' => obtain ⟨e, rfl⟩ := k1 rfl; obtain ⟨l, _, rfl, _⟩ := e1.ptr_inv hH h hd'; exact key _ _ hd rfl rfl rfl
    | sl h hd' => obtain ⟨e, rfl⟩ := k2 rfl; obtain ⟨l, cap, _, _, rfl, _⟩ := e1.sl_inv hH h hd'; exact key _ _ hd rfl rfl rfl
    | map h hd' =>
      obtain ⟨e, f, rfl⟩ := k3 rfl
      obtain ⟨l, hl, _⟩ := hH.get h hd'
      cases e1 with | map _ _ h => have := h l hl; subst this; exact key _ _ hd rfl rfl rfl
    | vp => obtain ⟨e, rfl⟩ := k1 rfl; obtain ⟨_, _, rfl, _⟩ := e1.vp_inv; exact key _ _ hd rfl rfl rfl
    | fn => obtain ⟨_, _, _, rfl⟩ := k4 rfl; obtain ⟨_, _, rfl, _⟩ := e1.fn_inv; exact key _ _ hd rfl rfl rfl
    | view h =>
      obtain ⟨e, rfl⟩ := k2 rfl
      cases e1 with
      | view0 => exact absurd rfl h
      | view => exact key _ _ hd rfl rfl rfl
/-- A slice that nobody writes, of no elements: nil or not. -/
theorem run_eqnil0 {neg : Bool} {t u : TypeId} {x y : Operand} {x' : Opd} {K : AV → List AObj → Prop} (ho : o.op = .binOp (if neg then .neq else .eql) t x y u) (ht : nilKd P t .s = true) (hy : nilIs P t y = true) (hx : opdOk x x' = true)
    (hr' : r x' = .view []) (hK : ∀ b, K (.bool b) H) : OpOk P o r H K :=
  .pure fun E a hr hH => by
    have e1 := hr.at_ (x := x) (by simp [ho, Op.operands]) hx
    rw [hr'] at e1
    cases hd : P.underlying t with
    | none => simp [nilKd, hd] at ht
    | some d =>
      cases d <;> simp [nilKd, hd] at ht
      have hf : ∃ q n c, a.eval x = .slice q n c := by
        generalize a.eval x = v at e1
        cases e1 <;> exact ⟨_, _, _, rfl⟩
      obtain ⟨q, n, c, hv⟩ := hf
      obtain ⟨h1, h2, h3, h4, h5⟩ := run_equal_nil hd hy (v := .slice q n c) rfl E.w (a := a)
      cases neg
      · exact ⟨.bool (isNil (.slice q n c)), _, by simp at ho; simp [execOp, ho, hv, h2, h4], .bool _, hK _⟩
      · exact ⟨.bool (!isNil (.slice q n c)), _, by simp at ho; simp [execOp, ho, hv, h3, h5], .bool _, hK _⟩
end
end Go.Proofs.Ytnjpfoblmomnlaa.Sx
/- That further operations do what the small language says: parts of tuples, numbers' conversions, functions as values, lengths, cuts, structs out of parts. No conditions: a kit of our own. -/
namespace Go.Proofs.Ytnjpfoblmomnlaa.Sx
open Go Go.RowKit
set_option linter.unusedVariables false
set_option linter.unusedSimpArgs false
section
variable {P : Program} {o : Oper} {r : Opd → AV} {H : List AObj}

theorem ok_ext {x : Operand} {y : Opd} {i : Nat} {vs : List AV} {z : AV} (ho : o.op = .extract x i) (hx : opdOk x y = true) (hy : r y = .tup vs) (hz : vs[i]? = some z) : OpOk P o r H (Is z H) :=
  .val fun E a hr hH => by
    have h := hr.at_ (x := x) (by simp [ho, Op.operands]) hx
    rw [hy] at h
    obtain ⟨ws, hv, hw⟩ := h.tup_inv
    have hlt := (List.getElem?_eq_some_iff.1 hz).1
    have hl := hw.len
    have hwi : ws[i]? = some (ws[i]'(by omega)) := List.getElem?_eq_getElem (by omega)
    exact ⟨ws[i]'(by omega), by simp [execOp, ho, hv, Instr.extract, hwi], hw.at_ i z _ hz hwi⟩

theorem ok_not {t : TypeId} {x : Operand} {y : Opd} {b : Bool} (ho : o.op = .unOp .not t x) (hx : opdOk x y = true) (hy : r y = .bool b) : OpOk P o r H (Is (.bool (!b)) H) :=
  .val fun E a hr hH => by
    have h := hr.at_ (x := x) (by simp [ho, Op.operands]) hx
    rw [hy] at h
    have hv := h.bool_inv
    exact ⟨.bool (!b), by simp [execOp, ho, hv, Op.unary], .bool _⟩

theorem ok_neg {t : TypeId} {x : Operand} {y : Opd} {k : IntKind} {n : Int} (ho : o.op = .unOp .neg t x) (hx : opdOk x y = true) (hy : r y = .int k n) (hf : fits k (0 - n)) : OpOk P o r H (Is (.int k (0 - n)) H) :=
  .val fun E a hr hH => by
    have h := hr.at_ (x := x) (by simp [ho, Op.operands]) hx
    rw [hy] at h
    have hv := h.int_inv
    unfold fits at hf
    exact ⟨.int k (0 - n), by simp [execOp, ho, hv, Op.unary, Op.intArith]; simpa using hf, .int _ _⟩

def intIs (P : Program) (dst : TypeId) (k : IntKind) : Bool := match P.underlying dst with | some (.int j) => j == k | _ => false
def some_ (P : Program) (t : TypeId) : Bool := (P.underlying t).isSome
theorem ok_cv {src dst : TypeId} {x : Operand} {y : Opd} {j k : IntKind} {n : Int} (ho : o.op = .convert src dst x) (hs : some_ P src = true) (hd : intIs P dst k = true) (hx : opdOk x y = true) (hy : r y = .int j n) :
    OpOk P o r H (Is (.int k (k.wrap n)) H) :=
  .val fun E a hr hH => by
    have h := hr.at_ (x := x) (by simp [ho, Op.operands]) hx
    rw [hy] at h
    have hv := h.int_inv
    unfold intIs at hd
    split at hd
    · rename_i q hq
      simp at hd
      subst hd
      obtain ⟨d, hd'⟩ := Option.isSome_iff_exists.mp hs
      exact ⟨.int q (q.wrap n), by simp [execOp, ho, hv, convert, run_underlying hd', run_underlying hq, Conv.intToInt], .int _ _⟩
    · cases hd

def opdsOk (xs : List Operand) (ys : List Opd) : Bool := all2 opdOk xs ys
theorem all2_len {α β : Type} {p : α → β → Bool} : ∀ {xs : List α} {ys : List β}, all2 p xs ys = true → xs.length = ys.length
  | [], [], _ => rfl
  | _ :: xs, _ :: ys, h => by simp [all2] at h; simp [all2_len h.2]
  | [], _ :: _, h => by simp [all2] at h
  | _ :: _, [], h => by simp [all2] at h
theorem all2_at {α β : Type} {p : α → β → Bool} : ∀ {xs : List α} {ys : List β}, all2 p xs ys = true → ∀ (i : Nat) x y, xs[i]? = some x → ys[i]? = some y → p x y = true
  | [], [], _, i, x, y, hx, _ => by simp at hx
  | a :: xs, b :: ys, h, 0, x, y, hx, hy => by simp [all2] at h; simp at hx hy; subst hx; subst hy; exact h.1
  | a :: xs, b :: ys, h, i + 1, x, y, hx, hy => by simp [all2] at h; exact all2_at h.2 i x y (by simpa using hx) (by simpa using hy)
  | [], _ :: _, h, _, _, _, _, _ => by simp [all2] at h
  | _ :: _, [], h, _, _, _, _, _ => by simp [all2] at h

theorem OpsRel.list {E : Env} {a : Act} (hr : OpsRel E r a o) {xs : List Operand} {ys : List Opd} (h : opdsOk xs ys = true) (hs : ∀ x ∈ xs, x ∈ o.op.operands) : VRels E (ys.map r) (xs.map a.eval) :=
  ⟨by simp [all2_len h], fun i x v hx hv => by
    rw [List.getElem?_map] at hx hv
    cases hy : ys[i]? with
    | none => simp [hy] at hx
    | some y =>
      cases hz : xs[i]? with
      | none => simp [hz] at hv
      | some z =>
        simp [hy] at hx
        simp [hz] at hv
        subst hx
        subst hv
        exact hr.at_ (hs z (List.mem_of_getElem? hz)) (all2_at h i z y hz hy)⟩

theorem ok_mkfn {f : FuncId} {first caps : Array Operand} {fs cs : List Opd} (ho : o.op = .makeFunc (.func f) first caps) (hf : opdsOk first.toList fs = true) (hc : opdsOk caps.toList cs = true) : OpOk P o r H (Is (.fn f (fs.map r) (cs.map r)) H) :=
  .val fun E a hr hH => by
    have h1 := hr.list hf (fun x hx => by simp only [ho, Op.operands]; exact Array.mem_append.2 (.inl (Array.mem_toList_iff.1 hx)))
    have h2 := hr.list hc (fun x hx => by simp only [ho, Op.operands]; exact Array.mem_append.2 (.inr (Array.mem_toList_iff.1 hx)))
    refine ⟨.func (.func f) (first.map a.eval) (caps.map a.eval), by simp [execOp, ho, Instr.makeFunc], ?_⟩
    have e1 : first.map a.eval = (first.toList.map a.eval).toArray := by apply Array.ext'; simp
    have e2 : caps.map a.eval = (caps.toList.map a.eval).toArray := by apply Array.ext'; simp
    rw [e1, e2]
    exact .fn h1.len h2.len h1.at_ h2.at_

/-! ### lengths -/
theorem call_builtin (b : Builtin) (args : Array Operand) (ts : Array TypeId) (a : Act) (w : World) (ho : o.op = .call { callee := .builtin b, args, argTypes := ts }) :
    (execOp a.eval o).run P w = (builtin b ts o.type (args.map fun | .const _ => true | _ => false) (args.map a.eval)).run P w := by
  simp [execOp, ho, resolve, invoke]
  rfl

theorem ok_len {x : Operand} {y : Opd} {t : TypeId} {n : Nat} (ho : o.op = .call { callee := .builtin .len, args := #[x], argTypes := #[t] }) (hx : opdOk x y = true)
    (hy : (sliceIs P t 0 = true ∨ (∃ sz, sliceIs P t sz = true)) ∧ ((r y = .nils ∧ n = 0) ∨ (∃ es, (r y = .view es ∨ r y = .cv es) ∧ n = es.length) ∨ (∃ id i ob, r y = .sl id i n ∧ H[id]? = some ob ∧ ob ≠ .dead)) ∨
      (P.underlying t = some .string ∧ ∃ s, r y = .str s ∧ n = s.size)) : OpOk P o r H (Is (.int .i64 n) H) :=
  .val fun E a hr hH => by
    have h := hr.at_ (x := x) (by simp [ho, Op.operands, Call.operands]) hx
    refine ⟨.int .i64 n, ?_, .int _ _⟩
    rw [call_builtin _ _ _ _ _ ho]
    rcases hy with ⟨ht, hy⟩ | ⟨ht, s, hy, rfl⟩
    · have he : ∃ e, P.underlying t = some (.slice e) := by
        rcases ht with ht | ⟨_, ht⟩ <;> (obtain ⟨e, he, _⟩ := sliceIs_run ht; exact ⟨e, he⟩)
      obtain ⟨e, he⟩ := he
      have hv : ∃ q c, a.eval x = .slice q n c := by
        rcases hy with ⟨hy, rfl⟩ | ⟨es, hy | hy, rfl⟩ | ⟨id, i, ob, hy, hid, hd⟩ <;> rw [hy] at h
        · generalize a.eval x = v at h; cases h; exact ⟨_, _, rfl⟩
        · generalize a.eval x = v at h; cases h <;> exact ⟨_, _, rfl⟩
        · generalize a.eval x = v at h; cases h with | cv h _ => cases h <;> exact ⟨_, _, rfl⟩
        · obtain ⟨l, cap, _, _, hv, _⟩ := h.sl_inv hH hid hd; exact ⟨_, _, hv⟩
      obtain ⟨q, c, hv⟩ := hv
      simp [builtin, Builtin.len_, hv, run_underlying he, goInt]
    · rw [hy] at h
      have hv : a.eval x = .string s := by generalize a.eval x = v at h; cases h; rfl
      simp [builtin, Builtin.len_, hv, run_underlying ht, goInt]

/-! ### least and greatest -/
theorem ok_mn {x y : Operand} {x' y' : Opd} {ts : Array TypeId} {k : IntKind} {m n : Int} (ho : o.op = .call { callee := .builtin .min, args := #[x, y], argTypes := ts }) (hx : opdOk x x' = true) (hy : opdOk y y' = true)
    (h1 : r x' = .int k m) (h2 : r y' = .int k n) : OpOk P o r H (Is (.int k (if n < m then n else m)) H) :=
  .val fun E a hr hH => by
    have e1 := hr.at_ (x := x) (by simp [ho, Op.operands, Call.operands]) hx
    have e2 := hr.at_ (x := y) (by simp [ho, Op.operands, Call.operands]) hy
    rw [h1] at e1
    rw [h2] at e2
    have e1 := e1.int_inv
    have e2 := e2.int_inv
    refine ⟨.int k (if n < m then n else m), ?_, .int _ _⟩
    rw [call_builtin _ _ _ _ _ ho]
    simp [builtin, e1, e2, run_min_int2]
theorem ok_mx {x y : Operand} {x' y' : Opd} {ts : Array TypeId} {k : IntKind} {m n : Int} (ho : o.op = .call { callee := .builtin .max, args := #[x, y], argTypes := ts }) (hx : opdOk x x' = true) (hy : opdOk y y' = true)
    (h1 : r x' = .int k m) (h2 : r y' = .int k n) : OpOk P o r H (Is (.int k (if m < n then n else m)) H) :=
  .val fun E a hr hH => by
    have e1 := hr.at_ (x := x) (by simp [ho, Op.operands, Call.operands]) hx
    have e2 := hr.at_ (x := y) (by simp [ho, Op.operands, Call.operands]) hy
    rw [h1] at e1
    rw [h2] at e2
    have e1 := e1.int_inv
    have e2 := e2.int_inv
    refine ⟨.int k (if m < n then n else m), ?_, .int _ _⟩
    rw [call_builtin _ _ _ _ _ ho]
    simp [builtin, e1, e2, run_max_int2]

/-! ### structs out of parts -/
theorem over_get (row : List AV) (off : Nat) (cs : List AV) (h : off + cs.length ≤ row.length) (i : Nat) : (over row off cs)[i]? = if off ≤ i ∧ i < off + cs.length then cs[i - off]? else row[i]? := by
  unfold over
  rw [List.append_assoc]
  by_cases h1 : i < off
  · rw [List.getElem?_append_left (by simp; omega), List.getElem?_take, if_pos h1, if_neg (by omega)]
  · rw [List.getElem?_append_right (by simp; omega)]
    simp only [List.length_take, Nat.min_eq_left (show off ≤ row.length by omega)]
    by_cases h2 : i < off + cs.length
    · rw [List.getElem?_append_left (by omega), if_pos (by omega)]
    · rw [List.getElem?_append_right (by omega), List.getElem?_drop, if_neg (by omega)]
      congr 1
      omega
theorem over_len (row : List AV) (off : Nat) (cs : List AV) (h : off + cs.length ≤ row.length) : (over row off cs).length = row.length := by
  unfold over; simp; omega

/-- Cells that are written one behind the other. -/
theorem foldl_get (off : Nat) : ∀ (vs : List Value) (k : Nat) (c : Array Value) (j : Nat), ((vs.zipIdx k).foldl (fun (cs : Array Value) (x : Value × Nat) => cs.setIfInBounds (off + x.2) x.1) c)[j]? =
    if off + k ≤ j ∧ j < off + k + vs.length ∧ j < c.size then vs[j - (off + k)]? else c[j]?
  | [], k, c, j => by
    have : ¬ (off + k ≤ j ∧ j < off + k + ([] : List Value).length ∧ j < c.size) := by simp; omega
    rw [if_neg this]; simp
  | v :: vs, k, c, j => by
    simp only [List.zipIdx_cons, List.foldl_cons]
    rw [foldl_get off vs (k + 1) (c.setIfInBounds (off + k) v) j]
    simp only [Array.size_setIfInBounds, List.length_cons, Array.getElem?_setIfInBounds]
    by_cases h1 : j = off + k
    · subst h1
      by_cases h2 : off + k < c.size
      · simp [h2]; omega
      · simp [h2]
    · have h1' : ¬ off + k = j := fun e => h1 e.symm
      by_cases h2 : off + (k + 1) ≤ j ∧ j < off + (k + 1) + vs.length ∧ j < c.size
      · have h3 : off + k ≤ j ∧ j < off + k + (vs.length + 1) ∧ j < c.size := by omega
        rw [if_pos h2, if_pos h3, show j - (off + k) = (j - (off + (k + 1))) + 1 by omega, List.getElem?_cons_succ]
      · have h3 : ¬ (off + k ≤ j ∧ j < off + k + (vs.length + 1) ∧ j < c.size) := by omega
        rw [if_neg h2, if_neg h3, if_neg h1']
theorem foldl_size (off : Nat) : ∀ (vs : List Value) (k : Nat) (c : Array Value), ((vs.zipIdx k).foldl (fun (cs : Array Value) (x : Value × Nat) => cs.setIfInBounds (off + x.2) x.1) c).size = c.size
  | [], k, c => rfl
  | v :: vs, k, c => by simp only [List.zipIdx_cons, List.foldl_cons]; rw [foldl_size off vs]; simp

/-- Cells and what is known of them. -/
structure CellsRel (E : Env) (cs : List AV) (vs : Array Value) : Prop where
  len : vs.size = cs.length
  one : ∀ (i : Nat) v, vs[i]? = some v → v.oneCell' = true
  at_ : ∀ (i : Nat) a v, cs[i]? = some a → vs[i]? = some v → VRel E a v

theorem VRel.cells {E : Env} {a : AV} {v : Value} (h : VRel E a v) (hp : (cellsL a).all AV.plain = true) : CellsRel E (cellsL a) v.cells := by
  cases a with
  | agg cs =>
    obtain ⟨vs, rfl, hl, h1, h⟩ := h.agg_inv
    exact ⟨by simpa [Value.cells, cellsL] using hl, fun i v hv => h1 v (by simp [Value.cells] at hv; exact List.mem_of_getElem? hv), fun i a v ha hv => h i a v ha (by simpa [Value.cells] using hv)⟩
  | tup vs => simp [cellsL, AV.plain] at hp
  | any => simp [cellsL, AV.plain] at hp
  | _ =>
    have h1 := h.one (by simpa [cellsL] using hp)
    have hc : v.cells = #[v] := by cases v <;> first | rfl | (simp [Value.oneCell'] at h1)
    rw [hc]
    refine ⟨by simp [cellsL], fun i w hw => ?_, fun i a w ha hw => ?_⟩
    · cases i with
      | zero => simp at hw; subst hw; exact h1
      | succ i => simp at hw
    · cases i with
      | zero => simp [cellsL] at ha hw; subst ha; subst hw; exact h
      | succ i => simp at hw

theorem CellsRel.over {E : Env} {cs : List AV} {vs : Array Value} (h : CellsRel E cs vs) {xs : List AV} {ws : Array Value} (hx : CellsRel E xs ws) {off : Nat} (hl : off + xs.length ≤ cs.length) :
    CellsRel E (over cs off xs) (ws.zipIdx.foldl (fun (cs : Array Value) (x : Value × Nat) => cs.setIfInBounds (off + x.2) x.1) vs) := by
  have e : ws.zipIdx.foldl (fun (cs : Array Value) (x : Value × Nat) => cs.setIfInBounds (off + x.2) x.1) vs = (ws.toList.zipIdx 0).foldl (fun (cs : Array Value) (x : Value × Nat) => cs.setIfInBounds (off + x.2) x.1) vs := by
    rw [← Array.foldl_toList]; simp
  rw [e]
  have hlw := hx.len
  have hlv := h.len
  refine ⟨by rw [foldl_size, over_len _ _ _ hl]; exact hlv, fun i v hv => ?_, fun i a v ha hv => ?_⟩
  · rw [foldl_get] at hv
    split at hv
    · exact hx.one _ v (by simpa using hv)
    · exact h.one _ v hv
  · rw [foldl_get] at hv
    rw [over_get _ _ _ hl] at ha
    have hlt : i < cs.length := by
      split at ha
      · omega
      · exact (List.getElem?_eq_some_iff.1 ha).1
    split at hv
    · rename_i h1
      rw [if_pos ⟨by omega, by simp at h1; omega⟩] at ha
      exact hx.at_ _ a v ha (by simpa using hv)
    · rename_i h1
      rw [if_neg (by simp at h1; omega)] at ha
      exact h.at_ _ a v ha hv
end
end Go.Proofs.Ytnjpfoblmomnlaa.Sx
