/- The whole: an operation of the small language that stands for one of the machine's does what it says. No conditions: a kit of our own. -/
import Derived.Test.YtaimhgmakgbfaaaSx24
namespace Go.Proofs.Ytaimhgmakgbfaaa.Sx
open Go Go.RowKit
set_option linter.unusedVariables false
set_option linter.unusedSimpArgs false

def isEq (op : BinOp) (neg : Bool) : Bool := match op, neg with | .eql, false => true | .neq, true => true | _, _ => false
theorem isEq_spec {op : BinOp} {neg : Bool} (h : isEq op neg = true) : op = if neg then .neq else .eql := by
  cases op <;> cases neg <;> first | rfl | (cases h; done)

def fltIs (P : Program) (t : TypeId) : Bool := match P.underlying t with | some (.float .f64) => true | _ => false
theorem fltIs_spec {P : Program} {t : TypeId} (h : fltIs P t = true) : P.underlying t = some (.float .f64) := by
  unfold fltIs at h; split at h <;> first | assumption | cases h
def elIs (P : Program) (t : TypeId) (g : Option Nat) : Bool := match P.underlying t with | some (.array _ e) => aggIs P e g | _ => false
def primOk (P : Program) (o : Oper) (p : Prim) (ys : List Opd) : Bool := match p with
  | .i2f => (match o.op with | .convert src dst x => (match ys with | [x'] => some_ P src && fltIs P dst && opdOk x x' | _ => false) | _ => false)
  | .f2i => (match o.op with | .convert src dst x => (match ys with | [x'] => some_ P src && intIs P dst .i64 && opdOk x x' | _ => false) | _ => false)
  | .cplx => (match o.op with | .call { callee := .builtin .complex, args, argTypes := _ } => (match args.toList, ys with | [x, y], [x', y'] => opdOk x x' && opdOk y y' | _, _ => false) | _ => false)
  | .re => (match o.op with | .call { callee := .builtin .real, args, argTypes := _ } => (match args.toList, ys with | [x], [x'] => opdOk x x' | _, _ => false) | _ => false)
  | .im => (match o.op with | .call { callee := .builtin .imag, args, argTypes := _ } => (match args.toList, ys with | [x], [x'] => opdOk x x' | _, _ => false) | _ => false)
  | .cadd => (match o.op with | .binOp .add _ x y _ => (match ys with | [x', y'] => opdOk x x' && opdOk y y' | _ => false) | _ => false)
  | .csub => (match o.op with | .binOp .sub _ x y _ => (match ys with | [x', y'] => opdOk x x' && opdOk y y' | _ => false) | _ => false)
  | .idx g n sz => (match o.op with | .index t x i => (match ys with | [x', i'] => arrIs P t n sz && elIs P t g && opdOk x x' && opdOk i i' | _ => false) | _ => false)
  | .cmul => (match o.op with | .binOp .mul _ x y _ => (match ys with | [x', y'] => opdOk x x' && opdOk y y' | _ => false) | _ => false)
/-- io stands for o. -/
def okOp (P : Program) (o : Oper) (io : IOp) : Bool := match io with
  | .mv y => (match o.op with | .move x => opdOk x y | .assign x => opdOk x y | _ => false)
  | .pick c' x' y' => (match o.op with | .pick c x y => opdOk c c' && opdOk x x' && opdOk y y' | _ => false)
  | .alloc z => (match o.op with | .alloc t => zeroIs P t z | _ => false)
  | .box y => (match o.op with | .box _ x => opdOk x y | _ => false)
  | .build z qs => (match o.op with | .build t ps => buildIs P t z ps.toList qs | _ => false)
  | .rowOwn sz qs => (match o.op with | .buildSlice t n ps => rowsIs P t sz n ps.toList qs | _ => false)
  | .rowView sz qs => (match o.op with | .buildSlice t n ps => rowsIs P t sz n ps.toList qs | _ => false)
  | .ld g _ y => (match o.op with | .load t x => aggIs P t g && opdOk x y | _ => false)
  | .st n y u => (match o.op with | .store t x v => sizeIs P t n && opdOk x y && opdOk v u | _ => false)
  | .nilc y => (match o.op with | .nilCheck x => opdOk x y | _ => false)
  | .fa off y => (match o.op with | .fieldAddr s x f => fieldIs P s f off && opdOk x y | _ => false)
  | .fld g off y => (match o.op with | .field s x f => fldIs P s f off g && opdOk x y | _ => false)
  | .ia sz _ y j => (match o.op with | .indexAddr t x i => sliceIs P t sz && opdOk x y && opdOk i j | _ => false)
  | .iaa len sz y j => (match o.op with | .indexAddr t x i => arrIs P t len sz && opdOk x y && opdOk i j | _ => false)
  | .bin op' x' y' => (match o.op with | .binOp op _ x y _ => decide (op = op') && opdOk x x' && opdOk y y' | _ => false)
  | .binw op' x' y' => (match o.op with | .binOp op _ x y _ => decide (op = op') && opdOk x x' && opdOk y y' | _ => false)
  | .eqb neg x' y' => (match o.op with | .binOp op t x y _ => isEq op neg && (match P.underlying t with | some .bool => true | _ => false) && opdOk x x' && opdOk y y' | _ => false)
  | .eqc neg ks x' y' => (match o.op with | .binOp op t x y _ => isEq op neg && eqcIs P t ks && opdOk x x' && opdOk y y' | _ => false)
  | .eqnil neg kd x' => (match o.op with | .binOp op t x y _ => isEq op neg && nilKd P t kd && nilIs P t y && opdOk x x' | _ => false)
  | .not y => (match o.op with | .unOp .not _ x => opdOk x y | _ => false)
  | .neg y => (match o.op with | .unOp .neg _ x => opdOk x y | _ => false)
  | .cvi k y => (match o.op with | .convert src dst x => some_ P src && intIs P dst k && opdOk x y | _ => false)
  | .cvw k y => (match o.op with | .convert src dst x => some_ P src && intIs P dst k && opdOk x y | _ => false)
  | .ext i y => (match o.op with | .extract x j => i == j && opdOk x y | _ => false)
  | .mkfn f fs cs => (match o.op with | .makeFunc (.func g) first caps => f == g && opdsOk first.toList fs && opdsOk caps.toList cs | _ => false)
  | .call f' as => (match o.op with | .call { callee := .value f, args, argTypes := _ } => opdOk f f' && opdsOk args.toList as | _ => false)
  | .app sz d' s' => (match o.op with | .call { callee := .builtin .append, args, argTypes } => (match args.toList with | [d, s] => opdOk d d' && opdOk s s' && appIs P argTypes sz | _ => false) | _ => false)
  | .mkslice sz z l' c' => (match o.op with | .makeSlice t l c => makeIs P t sz z && opdOk l l' && opdOk c c' | _ => false)
  | .slc sz y lo' hi' => (match o.op with | .slice t x lo hi none => cutIs P t && sliceIs P t sz && opdOk x y && optOk lo lo' && optOk hi hi' | _ => false)
  | .slc3 sz y hi' mx' => (match o.op with | .slice t x none (some hi) (some mx) => cutIs P t && sliceIs P t sz && opdOk x y && opdOk hi hi' && opdOk mx mx' | _ => false)
  | .clr sz z y => (match o.op with | .call { callee := .builtin .clear, args, argTypes } => (match args.toList with | [x] => opdOk x y && clrIs P argTypes sz z | _ => false) | _ => false)
  | .strb y => (match o.op with | .convert src dst x => bytesIs P src dst && opdOk x y | _ => false)
  | .eqs neg x' y' => (match o.op with | .binOp op t x y _ => isEq op neg && opdOk x x' && opdOk y y' | _ => false)
  | .len y => (match o.op with | .call { callee := .builtin .len, args, argTypes } => (match args.toList, argTypes.toList with
      | [x], [t] => opdOk x y && (match P.underlying t with | some (.slice e) => (P.info? e).isSome | _ => false) | _, _ => false) | _ => false)
  | .lenm y => (match o.op with | .call { callee := .builtin .len, args, argTypes } => (match args.toList, argTypes.toList with | [x], [t] => opdOk x y && mapIs P t | _, _ => false) | _ => false)
  | .mkmap => (match o.op with | .makeMap _ none => true | _ => false)
  | .look z ok y j => (match o.op with | .lookup t x i ok' => ok == ok' && mapIs P t && (match P.underlying t with | some (.map _ e) => zero1Is P e z | _ => false) && opdOk x y && opdOk i j | _ => false)
  | .mapup y j u => (match o.op with | .mapUpdate t x i v => mapIs P t && opdOk x y && opdOk i j && opdOk v u | _ => false)
  | .del y j => (match o.op with | .call { callee := .builtin .delete, args, argTypes } => (match args.toList, argTypes.toList with | [x, i], t :: _ => opdOk x y && opdOk i j && mapIs P t | _, _ => false) | _ => false)
  | .mn ys => (match o.op with | .call { callee := .builtin .min, args, argTypes := _ } => (match args.toList, ys with | [x, y], [x', y'] => opdOk x x' && opdOk y y' | _, _ => false) | _ => false)
  | .mx ys => (match o.op with | .call { callee := .builtin .max, args, argTypes := _ } => (match args.toList, ys with | [x, y], [x', y'] => opdOk x x' && opdOk y y' | _, _ => false) | _ => false)
  | .prim p ys => primOk P o p ys

section
variable {P : Program} {o : Oper} {r : Opd → AV} {H : List AObj} {k : AV → List AObj → Prop}

theorem arr1 {α : Type} {a : Array α} {x : α} (h : a.toList = [x]) : a = #[x] := by
  cases a; simp at h; subst h; rfl
theorem arr2 {α : Type} {a : Array α} {x y : α} (h : a.toList = [x, y]) : a = #[x, y] := by
  cases a; simp at h; subst h; rfl

/-! ### conversions, complex numbers -/
theorem VRel.val_inv {E : Env} {v w : Value} (h : VRel E (.val v) w) : w = v := by cases h; rfl
theorem ok_i2f {src dst : TypeId} {x : Operand} {y : Opd} {j : IntKind} {n : Int} (ho : o.op = .convert src dst x) (hs : some_ P src = true) (hd : P.underlying dst = some (.float .f64)) (hx : opdOk x y = true) (hy : r y = .int j n) :
    OpOk P o r H (Is (.val (.float .f64 (floatOfInt .f64 n))) H) :=
  .val fun E a hr hH => by
    have h := hr.at_ (x := x) (by simp [ho, Op.operands]) hx
    rw [hy] at h
    have hv := h.int_inv
    exact ⟨.float .f64 (floatOfInt .f64 n), by simp [execOp, ho, hv, run_convert_int_float _ src dst j .f64 n hs hd], .val _⟩
theorem primV_f2i {a v : AV} (h : primV .f2i [a] = some v) : ∃ b n, a = .val (.float .f64 b) ∧ floatToIntVal .f64 b .i64 = some n ∧ v = .int .i64 n := by
  unfold primV at h
  split at h <;> first | (simp at *; done) | skip
  rename_i b _ heq
  simp at heq
  subst heq
  rw [fT_eq] at h
  simp only [Option.map_eq_some_iff] at h
  obtain ⟨n, h1, rfl⟩ := h
  exact ⟨b, n, rfl, h1, rfl⟩
theorem primV_re {a v : AV} (h : primV .re [a] = some v) : ∃ b c, a = .val (.complex .f64 b c) ∧ v = .val (.float .f64 b) := by
  unfold primV at h
  split at h <;> first | (simp at *; done) | skip
  rename_i b c _ heq
  simp at heq
  subst heq
  exact ⟨b, c, rfl, (Option.some.inj h).symm⟩
theorem primV_im {a v : AV} (h : primV .im [a] = some v) : ∃ b c, a = .val (.complex .f64 b c) ∧ v = .val (.float .f64 c) := by
  unfold primV at h
  split at h <;> first | (simp at *; done) | skip
  rename_i b c _ heq
  simp at heq
  subst heq
  exact ⟨b, c, rfl, (Option.some.inj h).symm⟩
theorem primV_cplx {a b v : AV} (h : primV .cplx [a, b] = some v) : ∃ x y, a = .val (.float .f64 x) ∧ b = .val (.float .f64 y) ∧ v = .val (.complex .f64 x y) := by
  unfold primV at h
  split at h <;> first | (simp at *; done) | skip
  rename_i x y _ heq
  simp at heq
  obtain ⟨rfl, rfl⟩ := heq
  exact ⟨x, y, rfl, rfl, (Option.some.inj h).symm⟩
theorem ok_f2i {src dst : TypeId} {x : Operand} {y : Opd} {v : AV} (ho : o.op = .convert src dst x) (hs : some_ P src = true) (hd : intIs P dst .i64 = true) (hx : opdOk x y = true) (hv : primV .f2i ([y].map r) = some v) : OpOk P o r H (Is v H) := by
  obtain ⟨b, n, hy, hn, rfl⟩ := primV_f2i hv
  refine .val fun E a hr hH => ?_
  have h := hr.at_ (x := x) (by simp [ho, Op.operands]) hx
  rw [hy] at h
  have hw := h.val_inv
  unfold intIs at hd
  split at hd
  · rename_i q hq
    simp at hd
    subst hd
    exact ⟨.int .i64 n, by simp [execOp, ho, hw, run_convert_float_int _ src dst .f64 .i64 b n hs hq hn], .int _ _⟩
  · cases hd
theorem primV_idx {g : Option Nat} {n sz : Nat} {a b v : AV} (h : primV (.idx g n sz) [a, b] = some v) : ∃ cs k i, a = .agg cs ∧ b = .int k i ∧ 0 ≤ i ∧ i < n ∧ rdv g cs (i.toNat * sz) = some v := by
  unfold primV at h
  split at h <;> first | (simp at *; done) | skip
  rename_i g' n' sz' cs k i e1 heq
  simp at heq e1
  obtain ⟨rfl, rfl⟩ := heq
  obtain ⟨rfl, rfl, rfl⟩ := e1
  split at h
  · rename_i hc; exact ⟨cs, k, i, rfl, rfl, hc.1, hc.2, h⟩
  · cases h
theorem ok_idx {t : TypeId} {x i : Operand} {x' i' : Opd} {g : Option Nat} {n sz : Nat} {v : AV} (ho : o.op = .index t x i) (ha : arrIs P t n sz = true) (he : elIs P t g = true) (hx : opdOk x x' = true) (hi : opdOk i i' = true) (hv : primV (.idx g n sz) ([x', i'].map r) = some v) : OpOk P o r H (Is v H) := by
  obtain ⟨cs, k, m, h1, h2, h3, h4, h5⟩ := primV_idx hv
  refine .val fun E a hr hH => ?_
  have e1 := hr.at_ (x := x) (by simp [ho, Op.operands]) hx
  have e2 := hr.at_ (x := i) (by simp [ho, Op.operands]) hi
  rw [h1] at e1
  rw [h2] at e2
  obtain ⟨vs, hvs, hl, h6, h7⟩ := e1.agg_inv
  have e2 := e2.int_inv
  unfold arrIs at ha
  split at ha
  · rename_i n' e hu
    simp only [Bool.and_eq_true, beq_iff_eq] at ha
    obtain ⟨rfl, hs⟩ := ha
    simp only [elIs, hu] at he
    obtain ⟨w, h8, h9⟩ := run_part he hl h6 h7 h5
    exact ⟨w, by simp [execOp, ho, hvs, e2, Instr.index, asIntOf, underlying, hu, h3, h4, run_sizeOf hs, h8], h9⟩
  · cases ha
theorem ok_re {x : Operand} {y : Opd} {ts : Array TypeId} {v : AV} (ho : o.op = .call { callee := .builtin .real, args := #[x], argTypes := ts }) (hx : opdOk x y = true) (hv : primV .re ([y].map r) = some v) : OpOk P o r H (Is v H) := by
  obtain ⟨b, c, hy, rfl⟩ := primV_re hv
  refine .val fun E a hr hH => ?_
  have h := hr.at_ (x := x) (by simp [ho, Op.operands, Call.operands]) hx
  rw [hy] at h
  have hw := h.val_inv
  refine ⟨.float .f64 b, ?_, .val _⟩
  rw [call_builtin _ _ _ _ _ ho]
  simp [builtin, hw, run_real]
theorem ok_im {x : Operand} {y : Opd} {ts : Array TypeId} {v : AV} (ho : o.op = .call { callee := .builtin .imag, args := #[x], argTypes := ts }) (hx : opdOk x y = true) (hv : primV .im ([y].map r) = some v) : OpOk P o r H (Is v H) := by
  obtain ⟨b, c, hy, rfl⟩ := primV_im hv
  refine .val fun E a hr hH => ?_
  have h := hr.at_ (x := x) (by simp [ho, Op.operands, Call.operands]) hx
  rw [hy] at h
  have hw := h.val_inv
  refine ⟨.float .f64 c, ?_, .val _⟩
  rw [call_builtin _ _ _ _ _ ho]
  simp [builtin, hw, run_imag]
theorem ok_cplx {x y : Operand} {x' y' : Opd} {ts : Array TypeId} {v : AV} (ho : o.op = .call { callee := .builtin .complex, args := #[x, y], argTypes := ts }) (hx : opdOk x x' = true) (hy : opdOk y y' = true) (hv : primV .cplx ([x', y'].map r) = some v) : OpOk P o r H (Is v H) := by
  obtain ⟨b, c, h1, h2, rfl⟩ := primV_cplx hv
  refine .val fun E a hr hH => ?_
  have e1 := hr.at_ (x := x) (by simp [ho, Op.operands, Call.operands]) hx
  have e2 := hr.at_ (x := y) (by simp [ho, Op.operands, Call.operands]) hy
  rw [h1] at e1
  rw [h2] at e2
  have e1 := e1.val_inv
  have e2 := e2.val_inv
  refine ⟨.complex .f64 b c, ?_, .val _⟩
  rw [call_builtin _ _ _ _ _ ho]
  simp [builtin, e1, e2, run_complex]
theorem primV_cadd {a b v : AV} (h : primV .cadd [a, b] = some v) : ∃ x y z w re im, a = .val (.complex .f64 x y) ∧ b = .val (.complex .f64 z w) ∧ cSumBits .add .f64 x y z w = some (re, im) ∧ v = .val (.complex .f64 re im) := by
  unfold primV at h
  split at h <;> first | (simp at *; done) | skip
  rename_i x y z w _ heq
  simp at heq
  obtain ⟨rfl, rfl⟩ := heq
  rw [fA_eq] at h
  simp only [Option.map_eq_some_iff] at h
  obtain ⟨⟨re, im⟩, h1, rfl⟩ := h
  exact ⟨x, y, z, w, re, im, rfl, rfl, h1, rfl⟩
theorem ok_cadd {t u : TypeId} {x y : Operand} {x' y' : Opd} {v : AV} (ho : o.op = .binOp .add t x y u) (hx : opdOk x x' = true) (hy : opdOk y y' = true) (hv : primV .cadd ([x', y'].map r) = some v) : OpOk P o r H (Is v H) := by
  obtain ⟨a, b, c, d, re, im, h1, h2, hre, rfl⟩ := primV_cadd hv
  refine .val fun E a' hr hH => ?_
  have e1 := hr.at_ (x := x) (by simp [ho, Op.operands]) hx
  have e2 := hr.at_ (x := y) (by simp [ho, Op.operands]) hy
  rw [h1] at e1
  rw [h2] at e2
  have e1 := e1.val_inv
  have e2 := e2.val_inv
  exact ⟨.complex .f64 re im, by simp [execOp, ho, e1, e2, eqGuard_add, run_complex_sum _ .add (by simp) t .f64 a b c d re im hre], .val _⟩
theorem primV_csub {a b v : AV} (h : primV .csub [a, b] = some v) : ∃ x y z w re im, a = .val (.complex .f64 x y) ∧ b = .val (.complex .f64 z w) ∧ cSumBits .sub .f64 x y z w = some (re, im) ∧ v = .val (.complex .f64 re im) := by
  unfold primV at h
  split at h <;> first | (simp at *; done) | skip
  rename_i x y z w _ heq
  simp at heq
  obtain ⟨rfl, rfl⟩ := heq
  rw [fS_eq] at h
  simp only [Option.map_eq_some_iff] at h
  obtain ⟨⟨re, im⟩, h1, rfl⟩ := h
  exact ⟨x, y, z, w, re, im, rfl, rfl, h1, rfl⟩
theorem ok_csub {t u : TypeId} {x y : Operand} {x' y' : Opd} {v : AV} (ho : o.op = .binOp .sub t x y u) (hx : opdOk x x' = true) (hy : opdOk y y' = true) (hv : primV .csub ([x', y'].map r) = some v) : OpOk P o r H (Is v H) := by
  obtain ⟨a, b, c, d, re, im, h1, h2, hre, rfl⟩ := primV_csub hv
  refine .val fun E a' hr hH => ?_
  have e1 := hr.at_ (x := x) (by simp [ho, Op.operands]) hx
  have e2 := hr.at_ (x := y) (by simp [ho, Op.operands]) hy
  rw [h1] at e1
  rw [h2] at e2
  have e1 := e1.val_inv
  have e2 := e2.val_inv
  exact ⟨.complex .f64 re im, by simp [execOp, ho, e1, e2, eqGuard_sub, run_complex_sum _ .sub (by simp) t .f64 a b c d re im hre], .val _⟩
theorem primV_cmul {a b v : AV} (h : primV .cmul [a, b] = some v) : ∃ x y z w re im, a = .val (.complex .f64 x y) ∧ b = .val (.complex .f64 z w) ∧ cMulBits x y z w = some (re, im) ∧ v = .val (.complex .f64 re im) := by
  unfold primV at h
  split at h <;> first | (simp at *; done) | skip
  rename_i x y z w _ heq
  simp at heq
  obtain ⟨rfl, rfl⟩ := heq
  rw [fM_eq] at h
  simp only [Option.map_eq_some_iff] at h
  obtain ⟨⟨re, im⟩, h1, rfl⟩ := h
  exact ⟨x, y, z, w, re, im, rfl, rfl, h1, rfl⟩
theorem ok_cmul {t u : TypeId} {x y : Operand} {x' y' : Opd} {v : AV} (ho : o.op = .binOp .mul t x y u) (hx : opdOk x x' = true) (hy : opdOk y y' = true) (hv : primV .cmul ([x', y'].map r) = some v) : OpOk P o r H (Is v H) := by
  obtain ⟨a, b, c, d, re, im, h1, h2, hre, rfl⟩ := primV_cmul hv
  refine .val fun E a' hr hH => ?_
  have e1 := hr.at_ (x := x) (by simp [ho, Op.operands]) hx
  have e2 := hr.at_ (x := y) (by simp [ho, Op.operands]) hy
  rw [h1] at e1
  rw [h2] at e2
  have e1 := e1.val_inv
  have e2 := e2.val_inv
  exact ⟨.complex .f64 re im, by simp [execOp, ho, e1, e2, eqGuard_mul, run_complex_mul _ t a b c d re im hre], .val _⟩

theorem dop_sound {io : IOp} (hok : okOp P o io = true) (h : dop P io r H k) : ∃ x H', OpOk P o r H (Is x H') ∧ k x H' := by
  cases io <;> simp only [okOp] at hok
  case mv y =>
    split at hok <;> first | (cases hok; done) | skip
    · rename_i x ho; exact ⟨_, _, ok_mv (.inl ho) hok, h⟩
    · rename_i x ho; exact ⟨_, _, ok_mv (.inr ho) hok, h⟩
  case pick c' x' y' =>
    split at hok
    · rename_i c x y ho
      simp only [Bool.and_eq_true] at hok
      simp only [dop] at h
      split at h
      · rename_i b hb
        exact ⟨_, _, ok_pick ho hok.1.1 hok.1.2 hok.2 hb h.1 h.2.1, h.2.2⟩
      · exact h.elim
    · cases hok
  case alloc z =>
    split at hok
    · rename_i t ho; exact ⟨_, _, ok_alloc ho hok, h⟩
    · cases hok
  case box y =>
    split at hok
    · rename_i t x ho; exact ⟨_, _, ok_box ho hok h.1, h.2⟩
    · cases hok
  case build z qs =>
    split at hok
    · rename_i t ps ho
      simp only [dop, fill1_iff] at h
      exact ⟨_, _, ok_build ho hok h.1, h.2⟩
    · cases hok
  case rowOwn sz qs =>
    split at hok
    · rename_i t n ps ho; exact ⟨_, _, ok_rowOwn ho hok h.1, h.2⟩
    · cases hok
  case rowView sz qs =>
    split at hok
    · rename_i t n ps ho; exact ⟨_, _, ok_rowView ho hok h.1, h.2⟩
    · cases hok
  case ld g dd y =>
    split at hok
    · rename_i t x ho
      simp only [Bool.and_eq_true] at hok
      simp only [dop] at h
      split at h
      · rename_i id i off hy
        split at h
        · rename_i sz rs hid
          split at h
          · rename_i row hi
            obtain ⟨z, hz, hk⟩ := rd_iff.1 h
            exact ⟨_, _, ok_ld_ptr ho hok.2 hok.1 hy hid hi hz, hk⟩
          · exact h.elim
        · exact h.elim
      · rename_i row off hy
        obtain ⟨z, hz, hk⟩ := rd_iff.1 h
        exact ⟨_, _, ok_ld_vp ho hok.2 hok.1 hy hz, hk⟩
      · exact h.elim
    · cases hok
  case st n y u =>
    split at hok
    · rename_i t x v ho
      simp only [Bool.and_eq_true] at hok
      simp only [dop] at h
      split at h
      · rename_i id i off hy
        split at h
        · rename_i sz rs hid
          split at h
          · rename_i row hi
            exact ⟨_, _, ok_st ho hok.1.2 hok.2 hok.1.1 hy hid hi h.1 h.2.1 h.2.2.1, h.2.2.2⟩
          · exact h.elim
        · exact h.elim
      · exact h.elim
    · cases hok
  case nilc y =>
    split at hok
    · rename_i x ho
      simp only [dop] at h
      split at h
      · rename_i id i off hy; obtain ⟨⟨ob, h1, h2⟩, h3⟩ := h; exact ⟨_, _, ok_nilc_ptr ho hok hy h1 h2, h3⟩
      · rename_i row off hy; exact ⟨_, _, ok_nilc_vp ho hok hy, h⟩
      · rename_i f a b hy; exact ⟨_, _, ok_nilc_fn ho hok hy, h⟩
      · exact h.elim
    · cases hok
  case fa off y =>
    split at hok
    · rename_i s x f ho
      simp only [Bool.and_eq_true] at hok
      simp only [dop] at h
      split at h
      · rename_i id i off hy; obtain ⟨⟨ob, h1, h2⟩, h3⟩ := h; exact ⟨_, _, ok_fa_ptr ho hok.2 hok.1 hy h1 h2, h3⟩
      · rename_i row off hy; exact ⟨_, _, ok_fa_vp ho hok.2 hok.1 hy, h⟩
      · exact h.elim
    · cases hok
  case fld g off y =>
    split at hok
    · rename_i s x f ho
      simp only [Bool.and_eq_true] at hok
      simp only [dop] at h
      split at h
      · rename_i cs hy
        obtain ⟨z, hz, hk⟩ := rd_iff.1 h
        exact ⟨_, _, ok_fld ho hok.2 hok.1 hy hz, hk⟩
      · exact h.elim
    · cases hok
  case ia sz dd y j =>
    split at hok
    · rename_i t x i ho
      simp only [Bool.and_eq_true] at hok
      simp only [dop] at h
      split at h
      · rename_i id r0 len q n hy hj
        split at h
        · rename_i sz' rs hid
          obtain ⟨rfl, h0, h1, h2⟩ := h
          exact ⟨_, _, ok_ia_sl ho hok.1.2 hok.2 hok.1.1 hy hj hid h0 h1, h2⟩
        · exact h.elim
      · rename_i es q n hy hj
        obtain ⟨h0, h⟩ := h
        split at h
        · rename_i row hrow; exact ⟨_, _, ok_ia_view ho hok.1.2 hok.2 hok.1.1 hy hj h0 hrow h.1, h.2⟩
        · exact h.elim
      · exact h.elim
    · cases hok
  case iaa len sz y j =>
    split at hok
    · rename_i t x i ho
      simp only [Bool.and_eq_true] at hok
      simp only [dop] at h
      split at h
      · rename_i id r0 off q n hy hj
        obtain ⟨⟨ob, h1, h2⟩, h3, h4, h5⟩ := h
        exact ⟨_, _, ok_iaa_ptr ho hok.1.2 hok.2 hok.1.1 hy hj h1 h2 h3 h4, h5⟩
      · rename_i row off q n hy hj
        exact ⟨_, _, ok_iaa_vp ho hok.1.2 hok.2 hok.1.1 hy hj h.1 h.2.1, h.2.2⟩
      · exact h.elim
    · cases hok
  case bin op' x' y' =>
    split at hok
    · rename_i op t x y u ho
      simp only [Bool.and_eq_true, decide_eq_true_eq] at hok
      obtain ⟨⟨rfl, h1⟩, h2⟩ := hok
      simp only [dop] at h
      obtain ⟨z, h3, h4⟩ := ok_bin (P := P) (H := H) ho h1 h2 h
      exact ⟨z, H, h3, h4⟩
    · cases hok
  case binw op' x' y' =>
    split at hok
    · rename_i op t x y u ho
      simp only [Bool.and_eq_true, decide_eq_true_eq] at hok
      obtain ⟨⟨rfl, h1⟩, h2⟩ := hok
      simp only [dop] at h
      obtain ⟨z, h3, h4⟩ := ok_binw (P := P) (H := H) ho h1 h2 h
      exact ⟨z, H, h3, h4⟩
    · cases hok
  case eqb neg x' y' =>
    split at hok
    · rename_i op t x y u ho
      simp only [Bool.and_eq_true] at hok
      obtain ⟨⟨⟨h1, h2⟩, h3⟩, h4⟩ := hok
      have := isEq_spec h1
      subst this
      split at h2
      · rename_i hu
        simp only [dop] at h
        split at h
        · rename_i p q hp hq; exact ⟨_, _, ok_eqb ho hu h3 h4 hp hq, h⟩
        · exact h.elim
      · cases h2
    · cases hok
  case eqc neg ks x' y' =>
    split at hok
    · rename_i op t x y u ho
      simp only [Bool.and_eq_true] at hok
      obtain ⟨⟨⟨h1, h2⟩, h3⟩, h4⟩ := hok
      have := isEq_spec h1
      subst this
      simp only [dop] at h
      split at h
      · rename_i a b ha hb
        obtain ⟨z, h5, h6⟩ := ok_eqc (P := P) (H := H) ho h2 h3 h4 ha hb h
        exact ⟨_, _, h5, h6⟩
      · exact h.elim
    · cases hok
  case eqnil neg kd x' =>
    split at hok
    · rename_i op t x y u ho
      simp only [Bool.and_eq_true] at hok
      obtain ⟨⟨⟨h1, h2⟩, h3⟩, h4⟩ := hok
      have := isEq_spec h1
      subst this
      have key : ∀ b, NilV H kd (r x') b → k (.bool (if neg then !b else b)) H → ∃ x H', OpOk P o r H (Is x H') ∧ k x H' := fun b hb hk => ⟨_, _, ok_eqnil ho h2 h3 h4 hb, hk⟩
      have kt : k (.bool (!neg)) H → k (.bool (if neg then !true else true)) H := fun h => by cases neg <;> exact h
      have kf : k (.bool neg) H → k (.bool (if neg then !false else false)) H := fun h => by cases neg <;> exact h
      simp only [dop] at h
      split at h
      · rename_i e; exact key true (by rw [e]; exact .nilp) (kt h)
      · rename_i e; exact key true (by rw [e]; exact .nils) (kt h)
      · rename_i e; exact key true (by rw [e]; exact .nilm) (kt h)
      · rename_i e; exact key true (by rw [e]; exact .nilf) (kt h)
      · rename_i e; obtain ⟨⟨ob, h5, h6⟩, h7⟩ := h; exact key false (by rw [e]; exact .ptr h5 h6) (kf h7)
      · rename_i e; obtain ⟨⟨ob, h5, h6⟩, h7⟩ := h; exact key false (by rw [e]; exact .sl h5 h6) (kf h7)
      · rename_i e; obtain ⟨⟨ob, h5, h6⟩, h7⟩ := h; exact key false (by rw [e]; exact .map h5 h6) (kf h7)
      · rename_i e; exact key false (by rw [e]; exact .vp) (kf h)
      · rename_i e; exact key false (by rw [e]; exact .fn) (kf h)
      · rename_i e; exact key false (by rw [e]; exact .view h.1) (kf h.2)
      · exact h.elim
    · cases hok
  case not y =>
    split at hok
    · rename_i t x ho
      simp only [dop] at h
      split at h
      · rename_i b hy; exact ⟨_, _, ok_not ho hok hy, h⟩
      · exact h.elim
    · cases hok
  case neg y =>
    split at hok
    · rename_i t x ho
      simp only [dop] at h
      split at h
      · rename_i a m hy; exact ⟨_, _, ok_neg ho hok hy h.1, h.2⟩
      · exact h.elim
    · cases hok
  case cvi a y =>
    split at hok
    · rename_i src dst x ho
      simp only [Bool.and_eq_true] at hok
      simp only [dop] at h
      split at h
      · rename_i j m hy
        have hc := ok_cv (P := P) (H := H) ho hok.1.1 hok.1.2 hok.2 hy
        rw [show a.wrap m = m from h.1] at hc
        exact ⟨_, _, hc, h.2⟩
      · exact h.elim
    · cases hok
  case cvw a y =>
    split at hok
    · rename_i src dst x ho
      simp only [Bool.and_eq_true] at hok
      simp only [dop] at h
      split at h
      · rename_i j m hy; exact ⟨_, _, ok_cv ho hok.1.1 hok.1.2 hok.2 hy, h⟩
      · exact h.elim
    · cases hok
  case ext i y =>
    split at hok
    · rename_i x j ho
      simp only [Bool.and_eq_true, beq_iff_eq] at hok
      obtain ⟨rfl, hx⟩ := hok
      simp only [dop] at h
      split at h
      · rename_i vs hy
        split at h
        · rename_i v hv; exact ⟨_, _, ok_ext ho hx hy hv, h⟩
        · exact h.elim
      · exact h.elim
    · cases hok
  case mkfn f fs cs =>
    split at hok
    · rename_i g first caps ho
      simp only [Bool.and_eq_true, beq_iff_eq] at hok
      obtain ⟨⟨rfl, h1⟩, h2⟩ := hok
      exact ⟨_, _, ok_mkfn ho h1 h2, h⟩
    · cases hok
  case call f' as =>
    split at hok
    · rename_i f args ts ho
      simp only [Bool.and_eq_true] at hok
      simp only [dop] at h
      split at h
      · rename_i g caps free hf
        obtain ⟨x, H', h1, h2⟩ := h
        exact ⟨x, H', ok_call ho hok.1 hok.2 hf h1, h2⟩
      · exact h.elim
    · cases hok
  case app sz d' s' =>
    split at hok
    · rename_i args ts ho
      split at hok
      · rename_i d s hds
        have := arr2 hds
        subst this
        simp only [Bool.and_eq_true] at hok
        obtain ⟨⟨h1, h2⟩, h3⟩ := hok
        simp only [dop] at h
        obtain ⟨rows, h4, h5⟩ := srcRows_some h
        obtain ⟨h6, h7⟩ := h4
        split at h7
        · rename_i hd; exact ⟨_, _, ok_app_nils ho h1 h2 h3 hd h5 h6 h7.1, h7.2⟩
        · rename_i id r0 len hd
          split at h7
          · rename_i sz' rs hid
            obtain ⟨rfl, h8, h9, h10⟩ := h7
            exact ⟨_, _, ok_app_sl ho h1 h2 h3 hd hid h8 h5 h6 h9, h10⟩
          · exact h7.elim
        · rename_i es hd; exact ⟨_, _, ok_app_cv ho h1 h2 h3 hd h5 h6 h7.2.1 h7.1 h7.2.2.1, h7.2.2.2⟩
        · exact h7.elim
      · cases hok
    · cases hok
  case mkslice sz z l' c' =>
    split at hok
    · rename_i t l c ho
      simp only [Bool.and_eq_true] at hok
      simp only [dop] at h
      split at h
      · rename_i j m j' n hl hc; exact ⟨_, _, ok_mkslice ho hok.1.2 hok.2 hok.1.1 hl hc h.1 h.2.1 h.2.2.1, h.2.2.2⟩
      · exact h.elim
    · cases hok
  case slc sz y lo' hi' =>
    split at hok
    · rename_i t x lo hi ho
      simp only [Bool.and_eq_true] at hok
      obtain ⟨⟨⟨⟨h1, h2⟩, h3⟩, h4⟩, h5⟩ := hok
      simp only [dop] at h
      have lo_ : ∀ j m, 0 ≤ m → loAV r lo' = .int j m → bndIs r lo' 0 m.toNat := fun j m h0 e => by
        cases lo' with
        | none => simp [loAV] at e; exact .inl ⟨rfl, by omega⟩
        | some l => exact .inr ⟨l, j, rfl, by rw [Int.toNat_of_nonneg h0]; exact e⟩
      split at h
      · rename_i j m hy hl
        obtain ⟨rfl, h6, h7⟩ := h
        refine ⟨_, _, ok_slc_nil ho h3 h4 h5 h1 hy (lo_ j 0 (Int.le_refl _) hl) ?_, h7⟩
        cases hi' with
        | none => exact .inl ⟨rfl, rfl⟩
        | some hh =>
          simp only at h6
          split at h6
          · rename_i q n hn; subst h6; exact .inr ⟨hh, q, rfl, hn⟩
          · exact h6.elim
      · rename_i es j m hy hl
        obtain ⟨h6, h⟩ := h
        have hsz : ∀ e z, P.underlying t = some (.slice e) → sizeIs P e z = true → ∀ y ∈ es, y.length = z := fun e z he hz y hy => by
          obtain ⟨e', he', hs'⟩ := sliceIs_run h2
          rw [he] at he'
          cases he'
          obtain ⟨i, hi1, hi2⟩ := sizeIs_run hz
          obtain ⟨i', hi1', hi2'⟩ := sizeIs_run hs'
          rw [hi1] at hi1'
          cases hi1'
          rw [h6 y hy]
          omega
        split at h
        · obtain ⟨h7, h8, h9⟩ := h
          refine ⟨_, _, ok_slc_view (m := m.toNat) (n := es.length) ho h3 h4 h5 h1 hsz hy (lo_ j m h7 hl) (.inl ⟨rfl, rfl⟩) (by omega) (Nat.le_refl _), ?_⟩
          rwa [List.take_of_length_le (by simp)]
        · rename_i hh
          split at h
          · rename_i q n hn
            obtain ⟨h7, h8, h9, h10⟩ := h
            exact ⟨_, _, ok_slc_view (m := m.toNat) (n := n.toNat) ho h3 h4 h5 h1 hsz hy (lo_ j m h7 hl) (.inr ⟨hh, q, rfl, by rw [Int.toNat_of_nonneg (by omega)]; exact hn⟩) (by omega) (by omega), h10⟩
          · exact h.elim
      · rename_i id r0 len j m hy hl
        split at h
        · rename_i sz' rs hid
          split at h
          · obtain ⟨rfl, h7, h8, h10⟩ := h
            exact ⟨_, _, ok_slc_sl (m := m.toNat) (n := len) ho h3 h4 h5 h1 h2 hy hid (lo_ j m h7 hl) (.inl ⟨rfl, rfl⟩) (by omega) (Nat.le_refl _), h10⟩
          · rename_i hh
            split at h
            · rename_i q n hn
              obtain ⟨rfl, h7, h8, h9, h11⟩ := h
              exact ⟨_, _, ok_slc_sl (m := m.toNat) (n := n.toNat) ho h3 h4 h5 h1 h2 hy hid (lo_ j m h7 hl) (.inr ⟨hh, q, rfl, by rw [Int.toNat_of_nonneg (by omega)]; exact hn⟩) (by omega) (by omega), h11⟩
            · exact h.elim
        · exact h.elim
      · exact h.elim
    · cases hok
  case slc3 sz y hi' mx' =>
    split at hok
    · rename_i t x hi mx ho
      simp only [Bool.and_eq_true] at hok
      obtain ⟨⟨⟨⟨h1, h2⟩, h3⟩, h4⟩, h5⟩ := hok
      simp only [dop] at h
      split at h
      · rename_i k1 m k2 n hh hm
        obtain ⟨rfl, h0, h⟩ := h
        have em : m = (m.toNat : Int) := by omega
        split at h
        · rename_i hy
          obtain ⟨rfl, h⟩ := h
          exact ⟨_, _, ok_slc3_nil ho h3 h4 h5 h1 hy hh hm, h⟩
        · rename_i es hy
          obtain ⟨h6, h7, h⟩ := h
          exact ⟨_, _, ok_slc3_view (n := m.toNat) ho h3 h4 h5 h1 (.inl hy) (by rw [← em]; exact hh) (by rw [← em]; exact hm) (by omega), h⟩
        · rename_i es hy
          obtain ⟨h6, h7, h⟩ := h
          exact ⟨_, _, ok_slc3_view (n := m.toNat) ho h3 h4 h5 h1 (.inr hy) (by rw [← em]; exact hh) (by rw [← em]; exact hm) (by omega), h⟩
        · rename_i id r0 len hy
          split at h
          · rename_i sz' rs hid
            obtain ⟨rfl, h7, h⟩ := h
            exact ⟨_, _, ok_slc3_sl (n := m.toNat) ho h3 h4 h5 h1 hy hid (by rw [← em]; exact hh) (by rw [← em]; exact hm) (by omega), h⟩
          · exact h.elim
        · exact h.elim
      · exact h.elim
    · cases hok
  case clr sz z y =>
    split at hok
    · rename_i args ts ho
      split at hok
      · rename_i x hx
        have := arr1 hx
        subst this
        simp only [Bool.and_eq_true] at hok
        simp only [dop] at h
        split at h
        · rename_i hy; exact ⟨_, _, ok_clr0 ho hok.1 hok.2 (.inl hy), h⟩
        · rename_i es hy
          obtain ⟨rfl, h⟩ := h
          exact ⟨_, _, ok_clr0 ho hok.1 hok.2 (.inr hy), h⟩
        · rename_i id r0 len hy
          split at h
          · rename_i sz' rs hid
            obtain ⟨rfl, h7, h8, h⟩ := h
            exact ⟨_, _, ok_clr_sl ho hok.1 hok.2 hy hid h7 h8, h⟩
          · exact h.elim
        · exact h.elim
      · cases hok
    · cases hok
  case strb y =>
    split at hok
    · rename_i src dst x ho
      simp only [Bool.and_eq_true] at hok
      simp only [dop] at h
      obtain ⟨rows, h4, h5⟩ := srcRows_some h
      exact ⟨_, _, ok_strb ho hok.2 hok.1 h5 h4.1, h4.2⟩
    · cases hok
  case eqs neg x' y' =>
    split at hok
    · rename_i op t x y u ho
      simp only [Bool.and_eq_true] at hok
      obtain ⟨⟨h1, h2⟩, h3⟩ := hok
      have := isEq_spec h1
      subst this
      simp only [dop] at h
      split at h
      · rename_i s t' h4 h5
        exact ⟨_, _, ok_eqs ho h2 h3 h4 h5, h⟩
      · exact h.elim
    · cases hok
  case len y =>
    split at hok
    · rename_i args ts ho
      split at hok
      · rename_i x t hx ht
        have := arr1 hx
        subst this
        have := arr1 ht
        subst this
        simp only [Bool.and_eq_true] at hok
        obtain ⟨h1, h2⟩ := hok
        split at h2
        · rename_i e hu
          have hsl : ∃ sz, sliceIs P t sz = true := by
            obtain ⟨i, hi⟩ := Option.isSome_iff_exists.1 h2
            exact ⟨i.size, by simp [sliceIs, hu, sizeIs, hi]⟩
          simp only [dop] at h
          split at h
          · rename_i hy; exact ⟨.int .i64 (0 : Nat), H, ok_len ho h1 (.inl ⟨.inr hsl, .inl ⟨hy, rfl⟩⟩), by simpa using h⟩
          · rename_i es hy; exact ⟨_, H, ok_len ho h1 (.inl ⟨.inr hsl, .inr (.inl ⟨es, .inl hy, rfl⟩)⟩), h⟩
          · rename_i es hy; exact ⟨_, H, ok_len ho h1 (.inl ⟨.inr hsl, .inr (.inl ⟨es, .inr hy, rfl⟩)⟩), h⟩
          · rename_i id i len hy; obtain ⟨⟨ob, h3, h4⟩, h5⟩ := h; exact ⟨_, H, ok_len ho h1 (.inl ⟨.inr hsl, .inr (.inr ⟨id, i, ob, hy, h3, h4⟩)⟩), h5⟩
          · exact h.elim
        · cases h2
      · cases hok
    · cases hok
  case lenm y =>
    split at hok
    · rename_i args ts ho
      split at hok
      · rename_i x t hx ht
        have := arr1 hx
        subst this
        have := arr1 ht
        subst this
        simp only [Bool.and_eq_true] at hok
        simp only [dop] at h
        split at h
        · rename_i hy; exact ⟨_, H, ok_lenm (es := []) ho hok.1 hok.2 (.inl ⟨hy, rfl⟩), by simpa using h⟩
        · rename_i id hy
          split at h
          · rename_i es hid; exact ⟨_, H, ok_lenm ho hok.1 hok.2 (.inr ⟨id, hy, hid⟩), h⟩
          · exact h.elim
        · exact h.elim
      · cases hok
    · cases hok
  case mkmap =>
    split at hok
    · rename_i t ho; exact ⟨_, _, ok_mkmap ho, h⟩
    · cases hok
  case look z ok y j =>
    split at hok
    · rename_i t x i ok' ho
      simp only [Bool.and_eq_true, beq_iff_eq] at hok
      obtain ⟨⟨⟨⟨rfl, h1⟩, h2⟩, h3⟩, h4⟩ := hok
      split at h2
      · rename_i kk e hu
        have hz : ∀ k e, P.underlying t = some (.map k e) → zero1Is P e z = true := fun k' e' he => by rw [hu] at he; cases he; exact h2
        simp only [dop] at h
        split at h
        · rename_i n hj
          split at h
          · rename_i hy; exact ⟨_, _, ok_look ho h3 h4 h1 hz hj (.inl ⟨hy, rfl⟩), h⟩
          · rename_i id hy
            split at h
            · rename_i es hid
              refine ⟨_, _, ok_look ho h3 h4 h1 hz hj (.inr ⟨id, hy, hid⟩), ?_⟩
              cases hl : alook es n with
              | none => exact h.2 hl
              | some v => exact h.1 v hl
            · exact h.elim
          · exact h.elim
        · exact h.elim
      · cases h2
    · cases hok
  case mapup y j u =>
    split at hok
    · rename_i t x i v ho
      simp only [Bool.and_eq_true] at hok
      obtain ⟨⟨⟨h1, h2⟩, h3⟩, h4⟩ := hok
      simp only [dop] at h
      split at h
      · rename_i id n hy hj
        split at h
        · rename_i es hid; exact ⟨_, _, ok_mapup ho h2 h3 h4 h1 hj hy hid, h⟩
        · exact h.elim
      · exact h.elim
    · cases hok
  case del y j =>
    split at hok
    · rename_i args ts ho
      split at hok
      · rename_i x i t ts' hx ht
        have := arr2 hx
        subst this
        simp only [Bool.and_eq_true] at hok
        obtain ⟨⟨h1, h2⟩, h3⟩ := hok
        simp only [dop] at h
        split at h
        · rename_i id n hy hj
          split at h
          · rename_i es hid; exact ⟨_, _, ok_del ho (by rw [← Array.getElem?_toList, ht]; rfl) h1 h2 h3 hj hy hid, h⟩
          · exact h.elim
        · exact h.elim
      · cases hok
    · cases hok
  case mn ys =>
    split at hok
    · rename_i args ts ho
      split at hok
      · rename_i x y x' y' hx
        have := arr2 hx
        subst this
        simp only [Bool.and_eq_true] at hok
        simp only [dop, List.map_cons, List.map_nil] at h
        split at h
        · rename_i a m b n heq
          simp only [List.cons.injEq, and_true] at heq
          obtain ⟨rfl, h⟩ := h
          exact ⟨_, _, ok_mn ho hok.1 hok.2 heq.1 heq.2, h⟩
        · exact h.elim
      · cases hok
    · cases hok
  case mx ys =>
    split at hok
    · rename_i args ts ho
      split at hok
      · rename_i x y x' y' hx
        have := arr2 hx
        subst this
        simp only [Bool.and_eq_true] at hok
        simp only [dop, List.map_cons, List.map_nil] at h
        split at h
        · rename_i a m b n heq
          simp only [List.cons.injEq, and_true] at heq
          obtain ⟨rfl, h⟩ := h
          exact ⟨_, _, ok_mx ho hok.1 hok.2 heq.1 heq.2, h⟩
        · exact h.elim
      · cases hok
    · cases hok
  case prim p ys =>
    simp only [dop] at h
    split at h
    · rename_i v hv
      refine ⟨_, _, ?_, h⟩
      replace hok : primOk P o p ys = true := hok
      cases p
      case i2f =>
        simp only [primOk] at hok
        split at hok
        · rename_i src dst x ho
          split at hok
          · rename_i x'
            simp only [Bool.and_eq_true] at hok
            obtain ⟨⟨h1, h2⟩, h3⟩ := hok
            simp only [List.map_cons, List.map_nil] at hv
            cases hx : r x' <;> rw [hx] at hv <;> first | (cases hv; done) | skip
            obtain rfl : _ = v := Option.some.inj hv
            rw [fI_eq]
            exact ok_i2f ho h1 (fltIs_spec h2) h3 hx
          · cases hok
        · cases hok
      case f2i =>
        simp only [primOk] at hok
        split at hok
        · rename_i src dst x ho
          split at hok
          · rename_i x'
            simp only [Bool.and_eq_true] at hok
            obtain ⟨⟨h1, h2⟩, h3⟩ := hok
            exact ok_f2i ho h1 h2 h3 hv
          · cases hok
        · cases hok
      case cplx =>
        simp only [primOk] at hok
        split at hok
        · rename_i args ts ho
          split at hok
          · rename_i x y x' y' hx
            have := arr2 hx
            subst this
            simp only [Bool.and_eq_true] at hok
            exact ok_cplx ho hok.1 hok.2 hv
          · cases hok
        · cases hok
      case re =>
        simp only [primOk] at hok
        split at hok
        · rename_i args ts ho
          split at hok
          · rename_i x x' hx
            have := arr1 hx
            subst this
            exact ok_re ho hok hv
          · cases hok
        · cases hok
      case im =>
        simp only [primOk] at hok
        split at hok
        · rename_i args ts ho
          split at hok
          · rename_i x x' hx
            have := arr1 hx
            subst this
            exact ok_im ho hok hv
          · cases hok
        · cases hok
      case cadd =>
        simp only [primOk] at hok
        split at hok
        · rename_i t x y u ho
          split at hok
          · rename_i x' y'
            simp only [Bool.and_eq_true] at hok
            exact ok_cadd ho hok.1 hok.2 hv
          · cases hok
        · cases hok
      case csub =>
        simp only [primOk] at hok
        split at hok
        · rename_i t x y u ho
          split at hok
          · rename_i x' y'
            simp only [Bool.and_eq_true] at hok
            exact ok_csub ho hok.1 hok.2 hv
          · cases hok
        · cases hok
      case idx g n sz =>
        simp only [primOk] at hok
        split at hok
        · rename_i t x i ho
          split at hok
          · rename_i x' i'
            simp only [Bool.and_eq_true] at hok
            exact ok_idx ho hok.1.1.1 hok.1.1.2 hok.1.2 hok.2 hv
          · cases hok
        · cases hok
      case cmul =>
        simp only [primOk] at hok
        split at hok
        · rename_i t x y u ho
          split at hok
          · rename_i x' y'
            simp only [Bool.and_eq_true] at hok
            exact ok_cmul ho hok.1 hok.2 hv
          · cases hok
        · cases hok
    · exact h.elim

theorem OpOk.mono {K K' : AV → List AObj → Prop} (h : OpOk P o r H K) (hk : ∀ x h, K x h → K' x h) : OpOk P o r H K' :=
  fun E a next Q hr hH hn => h E a next Q hr hH fun v E' x H' h1 h2 h3 h4 => hn v E' x H' h1 h2 h3 (hk _ _ h4)
theorem dop_ok {io : IOp} (hok : okOp P o io = true) (h : dop P io r H k) : OpOk P o r H k := by
  obtain ⟨x, H', h1, h2⟩ := dop_sound hok h
  exact h1.mono fun y h' ⟨e1, e2⟩ => by rw [e1, e2]; exact h2

end
end Go.Proofs.Ytaimhgmakgbfaaa.Sx
