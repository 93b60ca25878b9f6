/- The whole: an operation of the small language that stands for one of the machine's does what it says. No conditions: a kit of our own. -/
import Derived.Test.YtfjidignjjaihaaSx24
namespace Go.Proofs.Ytfjidignjjaihaa.Sx
open Go Go.RowKit
set_option linter.unusedVariables false
set_option linter.unusedSimpArgs false

def isEq (op : BinOp) (neg : Bool) : Bool := match op, neg with | .eql, false => true | .neq, true => true | _, _ => false
theorem isEq_spec {op : BinOp} {neg : Bool} (h : isEq op neg = true) : op = if neg then .neq else .eql := by
  cases op <;> cases neg <;> first | rfl | (cases h; done)

/-- io stands for o. -/
def okOp (P : Program) (o : Oper) (io : IOp) : Bool := match io with
  | .mv y => (match o.op with | .move x => opdOk x y | .assign x => opdOk x y | _ => false)
  | .pick c' x' y' => (match o.op with | .pick c x y => opdOk c c' && opdOk x x' && opdOk y y' | _ => false)
  | .alloc z => (match o.op with | .alloc t => zeroIs P t z | _ => false)
  | .box y => (match o.op with | .box _ x => opdOk x y | _ => false)
  | .build z qs => (match o.op with | .build t ps => buildIs P t z ps.toList qs | _ => false)
  | .rowOwn sz qs => (match o.op with | .buildSlice t n ps => rowsIs P t sz n ps.toList qs | _ => false)
  | .rowView sz qs => (match o.op with | .buildSlice t n ps => rowsIs P t sz n ps.toList qs | _ => false)
  | .ld g _ y => (match o.op with | .load t x => aggIs P t g && opdOk x y | _ => false)
  | .st n y u => (match o.op with | .store t x v => sizeIs P t n && opdOk x y && opdOk v u | _ => false)
  | .nilc y => (match o.op with | .nilCheck x => opdOk x y | _ => false)
  | .fa off y => (match o.op with | .fieldAddr s x f => fieldIs P s f off && opdOk x y | _ => false)
  | .fld g off y => (match o.op with | .field s x f => fldIs P s f off g && opdOk x y | _ => false)
  | .ia sz _ y j => (match o.op with | .indexAddr t x i => sliceIs P t sz && opdOk x y && opdOk i j | _ => false)
  | .iaa len sz y j => (match o.op with | .indexAddr t x i => arrIs P t len sz && opdOk x y && opdOk i j | _ => false)
  | .bin op' x' y' => (match o.op with | .binOp op _ x y _ => decide (op = op') && opdOk x x' && opdOk y y' | _ => false)
  | .binw op' x' y' => (match o.op with | .binOp op _ x y _ => decide (op = op') && opdOk x x' && opdOk y y' | _ => false)
  | .eqb neg x' y' => (match o.op with | .binOp op t x y _ => isEq op neg && (match P.underlying t with | some .bool => true | _ => false) && opdOk x x' && opdOk y y' | _ => false)
  | .eqc neg ks x' y' => (match o.op with | .binOp op t x y _ => isEq op neg && eqcIs P t ks && opdOk x x' && opdOk y y' | _ => false)
  | .eqnil neg kd x' => (match o.op with | .binOp op t x y _ => isEq op neg && nilKd P t kd && nilIs P t y && opdOk x x' | _ => false)
  | .not y => (match o.op with | .unOp .not _ x => opdOk x y | _ => false)
  | .neg y => (match o.op with | .unOp .neg _ x => opdOk x y | _ => false)
  | .cvi k y => (match o.op with | .convert src dst x => some_ P src && intIs P dst k && opdOk x y | _ => false)
  | .cvw k y => (match o.op with | .convert src dst x => some_ P src && intIs P dst k && opdOk x y | _ => false)
  | .ext i y => (match o.op with | .extract x j => i == j && opdOk x y | _ => false)
  | .mkfn f fs cs => (match o.op with | .makeFunc (.func g) first caps => f == g && opdsOk first.toList fs && opdsOk caps.toList cs | _ => false)
  | .call f' as => (match o.op with | .call { callee := .value f, args, argTypes := _ } => opdOk f f' && opdsOk args.toList as | _ => false)
  | .app sz d' s' => (match o.op with | .call { callee := .builtin .append, args, argTypes } => (match args.toList with | [d, s] => opdOk d d' && opdOk s s' && appIs P argTypes sz | _ => false) | _ => false)
  | .mkslice sz z l' c' => (match o.op with | .makeSlice t l c => makeIs P t sz z && opdOk l l' && opdOk c c' | _ => false)
  | .slc sz y lo' hi' => (match o.op with | .slice t x lo hi none => cutIs P t && sliceIs P t sz && opdOk x y && optOk lo lo' && optOk hi hi' | _ => false)
  | .slc3 sz y hi' mx' => (match o.op with | .slice t x none (some hi) (some mx) => cutIs P t && sliceIs P t sz && opdOk x y && opdOk hi hi' && opdOk mx mx' | _ => false)
  | .clr sz z y => (match o.op with | .call { callee := .builtin .clear, args, argTypes } => (match args.toList with | [x] => opdOk x y && clrIs P argTypes sz z | _ => false) | _ => false)
  | .strb y => (match o.op with | .convert src dst x => bytesIs P src dst && opdOk x y | _ => false)
  | .eqs neg x' y' => (match o.op with | .binOp op t x y _ => isEq op neg && opdOk x x' && opdOk y y' | _ => false)
  | .len y => (match o.op with | .call { callee := .builtin .len, args, argTypes } => (match args.toList, argTypes.toList with
      | [x], [t] => opdOk x y && (match P.underlying t with | some (.slice e) => (P.info? e).isSome | _ => false) | _, _ => false) | _ => false)
  | .lenm y => (match o.op with | .call { callee := .builtin .len, args, argTypes } => (match args.toList, argTypes.toList with | [x], [t] => opdOk x y && mapIs P t | _, _ => false) | _ => false)
  | .mkmap => (match o.op with | .makeMap _ none => true | _ => false)
  | .look z ok y j => (match o.op with | .lookup t x i ok' => ok == ok' && mapIs P t && (match P.underlying t with | some (.map _ e) => zero1Is P e z | _ => false) && opdOk x y && opdOk i j | _ => false)
  | .mapup y j u => (match o.op with | .mapUpdate t x i v => mapIs P t && opdOk x y && opdOk i j && opdOk v u | _ => false)
  | .del y j => (match o.op with | .call { callee := .builtin .delete, args, argTypes } => (match args.toList, argTypes.toList with | [x, i], t :: _ => opdOk x y && opdOk i j && mapIs P t | _, _ => false) | _ => false)
  | .mn ys => (match o.op with | .call { callee := .builtin .min, args, argTypes := _ } => (match args.toList, ys with | [x, y], [x', y'] => opdOk x x' && opdOk y y' | _, _ => false) | _ => false)
  | .mx ys => (match o.op with | .call { callee := .builtin .max, args, argTypes := _ } => (match args.toList, ys with | [x, y], [x', y'] => opdOk x x' && opdOk y y' | _, _ => false) | _ => false)

section
variable {P : Program} {o : Oper} {r : Opd → AV} {H : List AObj} {k : AV → List AObj → Prop}

theorem arr1 {α : Type} {a : Array α} {x : α} (h : a.toList = [x]) : a = #[x] := by
  cases a; simp at h; subst h; rfl
theorem arr2 {α : Type} {a : Array α} {x y : α} (h : a.toList = [x, y]) : a = #[x, y] := by
  cases a; simp at h; subst h; rfl

theorem dop_sound {io : IOp} (hok : okOp P o io = true) (h : dop P io r H k) : ∃ x H', OpOk P o r H (Is x H') ∧ k x H' := by
  cases io <;> simp only [okOp] at hok
  case mv y =>
    split at hok <;> first | (cases hok; done) | skip
    · rename_i x ho; exact ⟨_, _, ok_mv (.inl ho) hok, h⟩
    · rename_i x ho; exact ⟨_, _, ok_mv (.inr ho) hok, h⟩
  case pick c' x' y' =>
    split at hok
    · rename_i c x y ho
      simp only [Bool.and_eq_true] at hok
      simp only [dop] at h
      split at h
      · rename_i b hb
        exact ⟨_, _, ok_pick ho hok.1.1 hok.1.2 hok.2 hb h.1 h.2.1, h.2.2⟩
      · exact h.elim
    · cases hok
  case alloc z =>
    split at hok
    · rename_i t ho; exact ⟨_, _, ok_alloc ho hok, h⟩
    · cases hok
  case box y =>
    split at hok
    · rename_i t x ho; exact ⟨_, _, ok_box ho hok h.1, h.2⟩
    · cases hok
  case build z qs =>
    split at hok
    · rename_i t ps ho
      simp only [dop, fill1_iff] at h
      exact ⟨_, _, ok_build ho hok h.1, h.2⟩
    · cases hok
  case rowOwn sz qs =>
    split at hok
    · rename_i t n ps ho; exact ⟨_, _, ok_rowOwn ho hok h.1, h.2⟩
    · cases hok
  case rowView sz qs =>
    split at hok
    · rename_i t n ps ho; exact ⟨_, _, ok_rowView ho hok h.1, h.2⟩
    · cases hok
  case ld g dd y =>
    split at hok
    · rename_i t x ho
      simp only [Bool.and_eq_true] at hok
      simp only [dop] at h
      split at h
      · rename_i id i off hy
        split at h
        · rename_i sz rs hid
          split at h
          · rename_i row hi
            obtain ⟨z, hz, hk⟩ := rd_iff.1 h
            exact ⟨_, _, ok_ld_ptr ho hok.2 hok.1 hy hid hi hz, hk⟩
          · exact h.elim
        · exact h.elim
      · rename_i row off hy
        obtain ⟨z, hz, hk⟩ := rd_iff.1 h
        exact ⟨_, _, ok_ld_vp ho hok.2 hok.1 hy hz, hk⟩
      · exact h.elim
    · cases hok
  case st n y u =>
    split at hok
    · rename_i t x v ho
      simp only [Bool.and_eq_true] at hok
      simp only [dop] at h
      split at h
      · rename_i id i off hy
        split at h
        · rename_i sz rs hid
          split at h
          · rename_i row hi
            exact ⟨_, _, ok_st ho hok.1.2 hok.2 hok.1.1 hy hid hi h.1 h.2.1 h.2.2.1, h.2.2.2⟩
          · exact h.elim
        · exact h.elim
      · exact h.elim
    · cases hok
  case nilc y =>
    split at hok
    · rename_i x ho
      simp only [dop] at h
      split at h
      · rename_i id i off hy; obtain ⟨⟨ob, h1, h2⟩, h3⟩ := h; exact ⟨_, _, ok_nilc_ptr ho hok hy h1 h2, h3⟩
      · rename_i row off hy; exact ⟨_, _, ok_nilc_vp ho hok hy, h⟩
      · rename_i f a b hy; exact ⟨_, _, ok_nilc_fn ho hok hy, h⟩
      · exact h.elim
    · cases hok
  case fa off y =>
    split at hok
    · rename_i s x f ho
      simp only [Bool.and_eq_true] at hok
      simp only [dop] at h
      split at h
      · rename_i id i off hy; obtain ⟨⟨ob, h1, h2⟩, h3⟩ := h; exact ⟨_, _, ok_fa_ptr ho hok.2 hok.1 hy h1 h2, h3⟩
      · rename_i row off hy; exact ⟨_, _, ok_fa_vp ho hok.2 hok.1 hy, h⟩
      · exact h.elim
    · cases hok
  case fld g off y =>
    split at hok
    · rename_i s x f ho
      simp only [Bool.and_eq_true] at hok
      simp only [dop] at h
      split at h
      · rename_i cs hy
        obtain ⟨z, hz, hk⟩ := rd_iff.1 h
        exact ⟨_, _, ok_fld ho hok.2 hok.1 hy hz, hk⟩
      · exact h.elim
    · cases hok
  case ia sz dd y j =>
    split at hok
    · rename_i t x i ho
      simp only [Bool.and_eq_true] at hok
      simp only [dop] at h
      split at h
      · rename_i id r0 len q n hy hj
        split at h
        · rename_i sz' rs hid
          obtain ⟨rfl, h0, h1, h2⟩ := h
          exact ⟨_, _, ok_ia_sl ho hok.1.2 hok.2 hok.1.1 hy hj hid h0 h1, h2⟩
        · exact h.elim
      · rename_i es q n hy hj
        obtain ⟨h0, h⟩ := h
        split at h
        · rename_i row hrow; exact ⟨_, _, ok_ia_view ho hok.1.2 hok.2 hok.1.1 hy hj h0 hrow h.1, h.2⟩
        · exact h.elim
      · exact h.elim
    · cases hok
  case iaa len sz y j =>
    split at hok
    · rename_i t x i ho
      simp only [Bool.and_eq_true] at hok
      simp only [dop] at h
      split at h
      · rename_i id r0 off q n hy hj
        obtain ⟨⟨ob, h1, h2⟩, h3, h4, h5⟩ := h
        exact ⟨_, _, ok_iaa_ptr ho hok.1.2 hok.2 hok.1.1 hy hj h1 h2 h3 h4, h5⟩
      · rename_i row off q n hy hj
        exact ⟨_, _, ok_iaa_vp ho hok.1.2 hok.2 hok.1.1 hy hj h.1 h.2.1, h.2.2⟩
      · exact h.elim
    · cases hok
  case bin op' x' y' =>
    split at hok
    · rename_i op t x y u ho
      simp only [Bool.and_eq_true, decide_eq_true_eq] at hok
      obtain ⟨⟨rfl, h1⟩, h2⟩ := hok
      simp only [dop] at h
      obtain ⟨z, h3, h4⟩ := ok_bin (P := P) (H := H) ho h1 h2 h
      exact ⟨z, H, h3, h4⟩
    · cases hok
  case binw op' x' y' =>
    split at hok
    · rename_i op t x y u ho
      simp only [Bool.and_eq_true, decide_eq_true_eq] at hok
      obtain ⟨⟨rfl, h1⟩, h2⟩ := hok
      simp only [dop] at h
      obtain ⟨z, h3, h4⟩ := ok_binw (P := P) (H := H) ho h1 h2 h
      exact ⟨z, H, h3, h4⟩
    · cases hok
  case eqb neg x' y' =>
    split at hok
    · rename_i op t x y u ho
      simp only [Bool.and_eq_true] at hok
      obtain ⟨⟨⟨h1, h2⟩, h3⟩, h4⟩ := hok
      have := isEq_spec h1
      subst this
      split at h2
      · rename_i hu
        simp only [dop] at h
        split at h
        · rename_i p q hp hq; exact ⟨_, _, ok_eqb ho hu h3 h4 hp hq, h⟩
        · exact h.elim
      · cases h2
    · cases hok
  case eqc neg ks x' y' =>
    split at hok
    · rename_i op t x y u ho
      simp only [Bool.and_eq_true] at hok
      obtain ⟨⟨⟨h1, h2⟩, h3⟩, h4⟩ := hok
      have := isEq_spec h1
      subst this
      simp only [dop] at h
      split at h
      · rename_i a b ha hb
        obtain ⟨z, h5, h6⟩ := ok_eqc (P := P) (H := H) ho h2 h3 h4 ha hb h
        exact ⟨_, _, h5, h6⟩
      · exact h.elim
    · cases hok
  case eqnil neg kd x' =>
    split at hok
    · rename_i op t x y u ho
      simp only [Bool.and_eq_true] at hok
      obtain ⟨⟨⟨h1, h2⟩, h3⟩, h4⟩ := hok
      have := isEq_spec h1
      subst this
      have key : ∀ b, NilV H kd (r x') b → k (.bool (if neg then !b else b)) H → ∃ x H', OpOk P o r H (Is x H') ∧ k x H' := fun b hb hk => ⟨_, _, ok_eqnil ho h2 h3 h4 hb, hk⟩
      have kt : k (.bool (!neg)) H → k (.bool (if neg then !true else true)) H := fun h => by cases neg <;> exact h
      have kf : k (.bool neg) H → k (.bool (if neg then !false else false)) H := fun h => by cases neg <;> exact h
      simp only [dop] at h
      split at h
      · rename_i e; exact key true (by rw [e]; exact .nilp) (kt h)
      · rename_i e; exact key true (by rw [e]; exact .nils) (kt h)
      · rename_i e; exact key true (by rw [e]; exact .nilm) (kt h)
      · rename_i e; exact key true (by rw [e]; exact .nilf) (kt h)
      · rename_i e; obtain ⟨⟨ob, h5, h6⟩, h7⟩ := h; exact key false (by rw [e]; exact .ptr h5 h6) (kf h7)
      · rename_i e; obtain ⟨⟨ob, h5, h6⟩, h7⟩ := h; exact key false (by rw [e]; exact .sl h5 h6) (kf h7)
      · rename_i e; obtain ⟨⟨ob, h5, h6⟩, h7⟩ := h; exact key false (by rw [e]; exact .map h5 h6) (kf h7)
      · rename_i e; exact key false (by rw [e]; exact .vp) (kf h)
      · rename_i e; exact key false (by rw [e]; exact .fn) (kf h)
      · rename_i e; exact key false (by rw [e]; exact .view h.1) (kf h.2)
      · exact h.elim
    · cases hok
  case not y =>
    split at hok
    · rename_i t x ho
      simp only [dop] at h
      split at h
      · rename_i b hy; exact ⟨_, _, ok_not ho hok hy, h⟩
      · exact h.elim
    · cases hok
  case neg y =>
    split at hok
    · rename_i t x ho
      simp only [dop] at h
      split at h
      · rename_i a m hy; exact ⟨_, _, ok_neg ho hok hy h.1, h.2⟩
      · exact h.elim
    · cases hok
  case cvi a y =>
    split at hok
    · rename_i src dst x ho
      simp only [Bool.and_eq_true] at hok
      simp only [dop] at h
      split at h
      · rename_i j m hy
        have hc := ok_cv (P := P) (H := H) ho hok.1.1 hok.1.2 hok.2 hy
        rw [show a.wrap m = m from h.1] at hc
        exact ⟨_, _, hc, h.2⟩
      · exact h.elim
    · cases hok
  case cvw a y =>
    split at hok
    · rename_i src dst x ho
      simp only [Bool.and_eq_true] at hok
      simp only [dop] at h
      split at h
      · rename_i j m hy; exact ⟨_, _, ok_cv ho hok.1.1 hok.1.2 hok.2 hy, h⟩
      · exact h.elim
    · cases hok
  case ext i y =>
    split at hok
    · rename_i x j ho
      simp only [Bool.and_eq_true, beq_iff_eq] at hok
      obtain ⟨rfl, hx⟩ := hok
      simp only [dop] at h
      split at h
      · rename_i vs hy
        split at h
        · rename_i v hv; exact ⟨_, _, ok_ext ho hx hy hv, h⟩
        · exact h.elim
      · exact h.elim
    · cases hok
  case mkfn f fs cs =>
    split at hok
    · rename_i g first caps ho
      simp only [Bool.and_eq_true, beq_iff_eq] at hok
      obtain ⟨⟨rfl, h1⟩, h2⟩ := hok
      exact ⟨_, _, ok_mkfn ho h1 h2, h⟩
    · cases hok
  case call f' as =>
    split at hok
    · rename_i f args ts ho
      simp only [Bool.and_eq_true] at hok
      simp only [dop] at h
      split at h
      · rename_i g caps free hf
        obtain ⟨x, H', h1, h2⟩ := h
        exact ⟨x, H', ok_call ho hok.1 hok.2 hf h1, h2⟩
      · exact h.elim
    · cases hok
  case app sz d' s' =>
    split at hok
    · rename_i args ts ho
      split at hok
      · rename_i d s hds
        have := arr2 hds
        subst this
        simp only [Bool.and_eq_true] at hok
        obtain ⟨⟨h1, h2⟩, h3⟩ := hok
        simp only [dop] at h
        obtain ⟨rows, h4, h5⟩ := srcRows_some h
        obtain ⟨h6, h7⟩ := h4
        split at h7
        · rename_i hd; exact ⟨_, _, ok_app_nils ho h1 h2 h3 hd h5 h6 h7.1, h7.2⟩
        · rename_i id r0 len hd
          split at h7
          · rename_i sz' rs hid
            obtain ⟨rfl, h8, h9, h10⟩ := h7
            exact ⟨_, _, ok_app_sl ho h1 h2 h3 hd hid h8 h5 h6 h9, h10⟩
          · exact h7.elim
        · rename_i es hd; exact ⟨_, _, ok_app_cv ho h1 h2 h3 hd h5 h6 h7.2.1 h7.1 h7.2.2.1, h7.2.2.2⟩
        · exact h7.elim
      · cases hok
    · cases hok
  case mkslice sz z l' c' =>
    split at hok
    · rename_i t l c ho
      simp only [Bool.and_eq_true] at hok
      simp only [dop] at h
      split at h
      · rename_i j m j' n hl hc; exact ⟨_, _, ok_mkslice ho hok.1.2 hok.2 hok.1.1 hl hc h.1 h.2.1 h.2.2.1, h.2.2.2⟩
      · exact h.elim
    · cases hok
  case slc sz y lo' hi' =>
    split at hok
    · rename_i t x lo hi ho
      simp only [Bool.and_eq_true] at hok
      obtain ⟨⟨⟨⟨h1, h2⟩, h3⟩, h4⟩, h5⟩ := hok
      simp only [dop] at h
      have lo_ : ∀ j m, 0 ≤ m → loAV r lo' = .int j m → bndIs r lo' 0 m.toNat := fun j m h0 e => by
        cases lo' with
        | none => simp [loAV] at e; exact .inl ⟨rfl, by omega⟩
        | some l => exact .inr ⟨l, j, rfl, by rw [Int.toNat_of_nonneg h0]; exact e⟩
      split at h
      · rename_i j m hy hl
        obtain ⟨rfl, h6, h7⟩ := h
        refine ⟨_, _, ok_slc_nil ho h3 h4 h5 h1 hy (lo_ j 0 (Int.le_refl _) hl) ?_, h7⟩
        cases hi' with
        | none => exact .inl ⟨rfl, rfl⟩
        | some hh =>
          simp only at h6
          split at h6
          · rename_i q n hn; subst h6; exact .inr ⟨hh, q, rfl, hn⟩
          · exact h6.elim
      · rename_i es j m hy hl
        obtain ⟨h6, h⟩ := h
        have hsz : ∀ e z, P.underlying t = some (.slice e) → sizeIs P e z = true → ∀ y ∈ es, y.length = z := fun e z he hz y hy => by
          obtain ⟨e', he', hs'⟩ := sliceIs_run h2
          rw [he] at he'
          cases he'
          obtain ⟨i, hi1, hi2⟩ := sizeIs_run hz
          obtain ⟨i', hi1', hi2'⟩ := sizeIs_run hs'
          rw [hi1] at hi1'
          cases hi1'
          rw [h6 y hy]
          omega
        split at h
        · obtain ⟨h7, h8, h9⟩ := h
          refine ⟨_, _, ok_slc_view (m := m.toNat) (n := es.length) ho h3 h4 h5 h1 hsz hy (lo_ j m h7 hl) (.inl ⟨rfl, rfl⟩) (by omega) (Nat.le_refl _), ?_⟩
          rwa [List.take_of_length_le (by simp)]
        · rename_i hh
          split at h
          · rename_i q n hn
            obtain ⟨h7, h8, h9, h10⟩ := h
            exact ⟨_, _, ok_slc_view (m := m.toNat) (n := n.toNat) ho h3 h4 h5 h1 hsz hy (lo_ j m h7 hl) (.inr ⟨hh, q, rfl, by rw [Int.toNat_of_nonneg (by omega)]; exact hn⟩) (by omega) (by omega), h10⟩
          · exact h.elim
      · rename_i id r0 len j m hy hl
        split at h
        · rename_i sz' rs hid
          split at h
          · obtain ⟨rfl, h7, h8, h9, h10⟩ := h
            exact ⟨_, _, ok_slc_sl (m := m.toNat) (n := len) ho h3 h4 h5 h1 h2 hy hid (lo_ j m h7 hl) (.inl ⟨rfl, rfl⟩) (by omega) (Nat.le_refl _) (by omega), h10⟩
          · rename_i hh
            split at h
            · rename_i q n hn
              obtain ⟨rfl, h7, h8, h9, h10, h11⟩ := h
              exact ⟨_, _, ok_slc_sl (m := m.toNat) (n := n.toNat) ho h3 h4 h5 h1 h2 hy hid (lo_ j m h7 hl) (.inr ⟨hh, q, rfl, by rw [Int.toNat_of_nonneg (by omega)]; exact hn⟩) (by omega) (by omega) (by omega), h11⟩
            · exact h.elim
        · exact h.elim
      · exact h.elim
    · cases hok
  case slc3 sz y hi' mx' =>
    split at hok
    · rename_i t x hi mx ho
      simp only [Bool.and_eq_true] at hok
      obtain ⟨⟨⟨⟨h1, h2⟩, h3⟩, h4⟩, h5⟩ := hok
      simp only [dop] at h
      split at h
      · rename_i k1 m k2 n hh hm
        obtain ⟨rfl, h0, h⟩ := h
        have em : m = (m.toNat : Int) := by omega
        split at h
        · rename_i hy
          obtain ⟨rfl, h⟩ := h
          exact ⟨_, _, ok_slc3_nil ho h3 h4 h5 h1 hy hh hm, h⟩
        · rename_i es hy
          obtain ⟨h6, h7, h⟩ := h
          exact ⟨_, _, ok_slc3_view (n := m.toNat) ho h3 h4 h5 h1 (.inl hy) (by rw [← em]; exact hh) (by rw [← em]; exact hm) (by omega), h⟩
        · rename_i es hy
          obtain ⟨h6, h7, h⟩ := h
          exact ⟨_, _, ok_slc3_view (n := m.toNat) ho h3 h4 h5 h1 (.inr hy) (by rw [← em]; exact hh) (by rw [← em]; exact hm) (by omega), h⟩
        · rename_i id r0 len hy
          split at h
          · rename_i sz' rs hid
            obtain ⟨rfl, h7, h⟩ := h
            exact ⟨_, _, ok_slc3_sl (n := m.toNat) ho h3 h4 h5 h1 hy hid (by rw [← em]; exact hh) (by rw [← em]; exact hm) (by omega), h⟩
          · exact h.elim
        · exact h.elim
      · exact h.elim
    · cases hok
  case clr sz z y =>
    split at hok
    · rename_i args ts ho
      split at hok
      · rename_i x hx
        have := arr1 hx
        subst this
        simp only [Bool.and_eq_true] at hok
        simp only [dop] at h
        split at h
        · rename_i hy; exact ⟨_, _, ok_clr0 ho hok.1 hok.2 (.inl hy), h⟩
        · rename_i es hy
          obtain ⟨rfl, h⟩ := h
          exact ⟨_, _, ok_clr0 ho hok.1 hok.2 (.inr hy), h⟩
        · rename_i id r0 len hy
          split at h
          · rename_i sz' rs hid
            obtain ⟨rfl, h7, h8, h⟩ := h
            exact ⟨_, _, ok_clr_sl ho hok.1 hok.2 hy hid h7 h8, h⟩
          · exact h.elim
        · exact h.elim
      · cases hok
    · cases hok
  case strb y =>
    split at hok
    · rename_i src dst x ho
      simp only [Bool.and_eq_true] at hok
      simp only [dop] at h
      obtain ⟨rows, h4, h5⟩ := srcRows_some h
      exact ⟨_, _, ok_strb ho hok.2 hok.1 h5 h4.1, h4.2⟩
    · cases hok
  case eqs neg x' y' =>
    split at hok
    · rename_i op t x y u ho
      simp only [Bool.and_eq_true] at hok
      obtain ⟨⟨h1, h2⟩, h3⟩ := hok
      have := isEq_spec h1
      subst this
      simp only [dop] at h
      split at h
      · rename_i s t' h4 h5
        exact ⟨_, _, ok_eqs ho h2 h3 h4 h5, h⟩
      · exact h.elim
    · cases hok
  case len y =>
    split at hok
    · rename_i args ts ho
      split at hok
      · rename_i x t hx ht
        have := arr1 hx
        subst this
        have := arr1 ht
        subst this
        simp only [Bool.and_eq_true] at hok
        obtain ⟨h1, h2⟩ := hok
        split at h2
        · rename_i e hu
          have hsl : ∃ sz, sliceIs P t sz = true := by
            obtain ⟨i, hi⟩ := Option.isSome_iff_exists.1 h2
            exact ⟨i.size, by simp [sliceIs, hu, sizeIs, hi]⟩
          simp only [dop] at h
          split at h
          · rename_i hy; exact ⟨.int .i64 (0 : Nat), H, ok_len ho h1 (.inl ⟨.inr hsl, .inl ⟨hy, rfl⟩⟩), by simpa using h⟩
          · rename_i es hy; exact ⟨_, H, ok_len ho h1 (.inl ⟨.inr hsl, .inr (.inl ⟨es, .inl hy, rfl⟩)⟩), h⟩
          · rename_i es hy; exact ⟨_, H, ok_len ho h1 (.inl ⟨.inr hsl, .inr (.inl ⟨es, .inr hy, rfl⟩)⟩), h⟩
          · rename_i id i len hy; obtain ⟨⟨ob, h3, h4⟩, h5⟩ := h; exact ⟨_, H, ok_len ho h1 (.inl ⟨.inr hsl, .inr (.inr ⟨id, i, ob, hy, h3, h4⟩)⟩), h5⟩
          · exact h.elim
        · cases h2
      · cases hok
    · cases hok
  case lenm y =>
    split at hok
    · rename_i args ts ho
      split at hok
      · rename_i x t hx ht
        have := arr1 hx
        subst this
        have := arr1 ht
        subst this
        simp only [Bool.and_eq_true] at hok
        simp only [dop] at h
        split at h
        · rename_i hy; exact ⟨_, H, ok_lenm (es := []) ho hok.1 hok.2 (.inl ⟨hy, rfl⟩), by simpa using h⟩
        · rename_i id hy
          split at h
          · rename_i es hid; exact ⟨_, H, ok_lenm ho hok.1 hok.2 (.inr ⟨id, hy, hid⟩), h⟩
          · exact h.elim
        · exact h.elim
      · cases hok
    · cases hok
  case mkmap =>
    split at hok
    · rename_i t ho; exact ⟨_, _, ok_mkmap ho, h⟩
    · cases hok
  case look z ok y j =>
    split at hok
    · rename_i t x i ok' ho
      simp only [Bool.and_eq_true, beq_iff_eq] at hok
      obtain ⟨⟨⟨⟨rfl, h1⟩, h2⟩, h3⟩, h4⟩ := hok
      split at h2
      · rename_i kk e hu
        have hz : ∀ k e, P.underlying t = some (.map k e) → zero1Is P e z = true := fun k' e' he => by rw [hu] at he; cases he; exact h2
        simp only [dop] at h
        split at h
        · rename_i n hj
          split at h
          · rename_i hy; exact ⟨_, _, ok_look ho h3 h4 h1 hz hj (.inl ⟨hy, rfl⟩), h⟩
          · rename_i id hy
            split at h
            · rename_i es hid
              refine ⟨_, _, ok_look ho h3 h4 h1 hz hj (.inr ⟨id, hy, hid⟩), ?_⟩
              cases hl : alook es n with
              | none => exact h.2 hl
              | some v => exact h.1 v hl
            · exact h.elim
          · exact h.elim
        · exact h.elim
      · cases h2
    · cases hok
  case mapup y j u =>
    split at hok
    · rename_i t x i v ho
      simp only [Bool.and_eq_true] at hok
      obtain ⟨⟨⟨h1, h2⟩, h3⟩, h4⟩ := hok
      simp only [dop] at h
      split at h
      · rename_i id n hy hj
        split at h
        · rename_i es hid; exact ⟨_, _, ok_mapup ho h2 h3 h4 h1 hj hy hid, h⟩
        · exact h.elim
      · exact h.elim
    · cases hok
  case del y j =>
    split at hok
    · rename_i args ts ho
      split at hok
      · rename_i x i t ts' hx ht
        have := arr2 hx
        subst this
        simp only [Bool.and_eq_true] at hok
        obtain ⟨⟨h1, h2⟩, h3⟩ := hok
        simp only [dop] at h
        split at h
        · rename_i id n hy hj
          split at h
          · rename_i es hid; exact ⟨_, _, ok_del ho (by rw [← Array.getElem?_toList, ht]; rfl) h1 h2 h3 hj hy hid, h⟩
          · exact h.elim
        · exact h.elim
      · cases hok
    · cases hok
  case mn ys =>
    split at hok
    · rename_i args ts ho
      split at hok
      · rename_i x y x' y' hx
        have := arr2 hx
        subst this
        simp only [Bool.and_eq_true] at hok
        simp only [dop, List.map_cons, List.map_nil] at h
        split at h
        · rename_i a m b n heq
          simp only [List.cons.injEq, and_true] at heq
          obtain ⟨rfl, h⟩ := h
          exact ⟨_, _, ok_mn ho hok.1 hok.2 heq.1 heq.2, h⟩
        · exact h.elim
      · cases hok
    · cases hok
  case mx ys =>
    split at hok
    · rename_i args ts ho
      split at hok
      · rename_i x y x' y' hx
        have := arr2 hx
        subst this
        simp only [Bool.and_eq_true] at hok
        simp only [dop, List.map_cons, List.map_nil] at h
        split at h
        · rename_i a m b n heq
          simp only [List.cons.injEq, and_true] at heq
          obtain ⟨rfl, h⟩ := h
          exact ⟨_, _, ok_mx ho hok.1 hok.2 heq.1 heq.2, h⟩
        · exact h.elim
      · cases hok
    · cases hok

theorem OpOk.mono {K K' : AV → List AObj → Prop} (h : OpOk P o r H K) (hk : ∀ x h, K x h → K' x h) : OpOk P o r H K' :=
  fun E a next Q hr hH hn => h E a next Q hr hH fun v E' x H' h1 h2 h3 h4 => hn v E' x H' h1 h2 h3 (hk _ _ h4)
theorem dop_ok {io : IOp} (hok : okOp P o io = true) (h : dop P io r H k) : OpOk P o r H k := by
  obtain ⟨x, H', h1, h2⟩ := dop_sound hok h
  exact h1.mono fun y h' ⟨e1, e2⟩ => by rw [e1, e2]; exact h2

end
end Go.Proofs.Ytfjidignjjaihaa.Sx
