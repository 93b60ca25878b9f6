/- Regions whose order is open: what is shown in the order of the text holds of every order ('opsD_sound'). No conditions: a kit of our own. -/
import Derived.Test.YtnjpfoblmomnlaaSx15
namespace Go.Proofs.Ytnjpfoblmomnlaa.Sx
open Go Go.RowKit
set_option linter.unusedVariables false
set_option linter.unusedSimpArgs false

def preds (o : Oper) : List Nat := (o.after.toList.filter fun e => Region.binds .any e).map (·.on)
def tmpOf : Operand → Option Nat
  | .tmp t => some t
  | _ => none
def guardT (ops : Array Oper) (o : Oper) : Option Nat := match o.guard with
  | some (j, _) => (ops[j]?).bind (·.dst)
  | none => none
def reads (ops : Array Oper) (o : Oper) : List Nat := o.op.operands.toList.filterMap tmpOf ++ (guardT ops o).toList
/-- j is done ahead of the operation. -/
def reachB (ops : Array Oper) : Nat → Oper → Nat → Bool
  | 0, o, j => (preds o).contains j
  | d + 1, o, j => (preds o).contains j || (preds o).any fun k => decide (j < k) && match ops[k]? with
    | some ok => reachB ops d ok j
    | none => false
theorem reach_listed {ops : Array Oper} {listed : Array Bool} (down : ∀ (j : Nat) o, ops[j]? = some o → listed.getD j false = true → ∀ e ∈ preds o, listed.getD e false = true) :
    ∀ (d : Nat) (o : Oper) (j : Nat), reachB ops d o j = true → (∀ e ∈ preds o, listed.getD e false = true) → listed.getD j false = true
  | 0, o, j, h, hp => hp j (by simpa [reachB] using h)
  | d + 1, o, j, h, hp => by
    simp only [reachB, Bool.or_eq_true, List.any_eq_true, Bool.and_eq_true, decide_eq_true_eq] at h
    rcases h with h | ⟨k, hk, _, h⟩
    · exact hp j (by simpa using h)
    · split at h
      · rename_i ok hok
        exact reach_listed down d ok j h (down k ok hok (hp k hk))
      · cases h
/-- A variable that is made: its block can be there ahead of the text. -/
def isAl (o : IOper) : Bool := match o.op with
  | .alloc _ => o.guard.isNone && o.dst.isSome && !o.loose
  | _ => false
/-- .. for whoever reads its pointer changes memory, behind it. -/
def lateB (ops : Array Oper) (il : List IOper) (j : Nat) : Bool := match ops[j]?, il[j]? with
  | some oj, some ioj => isAl ioj && (List.range ops.size).all fun i => match ops[i]?, il[i]? with
    | some oi, some ioi => !((reads ops oi).any fun t => oj.dst == some t) || (effO ioi && !isAl ioi && decide (j < i))
    | _, _ => true
  | _, _ => false
structure Late (ops : Array Oper) (il : List IOper) (j : Nat) (oj : Oper) (ioj : IOper) (z : List AV) (t : Nat) : Prop where
  o : ops[j]? = some oj
  io : il[j]? = some ioj
  op : ioj.op = .alloc z
  guard : ioj.guard = none
  dst : ioj.dst = some t
  read : ∀ (i : Nat) oi ioi, ops[i]? = some oi → il[i]? = some ioi → (∃ x ∈ reads ops oi, oj.dst = some x) → effO ioi = true ∧ isAl ioi = false ∧ j < i
theorem isAl_inv {o : IOper} (h : isAl o = true) : ∃ z t, o.op = .alloc z ∧ o.guard = none ∧ o.dst = some t := by
  unfold isAl at h
  split at h
  · rename_i z e
    simp only [Bool.and_eq_true, Option.isNone_iff_eq_none, Option.isSome_iff_exists] at h
    obtain ⟨⟨h1, t, h2⟩, _⟩ := h
    exact ⟨z, t, e, h1, h2⟩
  · cases h
theorem lateB_spec {ops : Array Oper} {il : List IOper} {j : Nat} (h : lateB ops il j = true) : ∃ oj ioj z t, Late ops il j oj ioj z t := by
  unfold lateB at h
  split at h
  · rename_i oj ioj e1 e2
    simp only [Bool.and_eq_true, List.all_eq_true, List.mem_range] at h
    obtain ⟨h1, h2⟩ := h
    obtain ⟨z, t, h3, h4, h5⟩ := isAl_inv h1
    refine ⟨oj, ioj, z, t, e1, e2, h3, h4, h5, fun i oi ioi hi hi' ⟨x, hx, hd⟩ => ?_⟩
    have := h2 i (Array.getElem?_eq_some_iff.1 hi).1
    simp only [hi, hi', Bool.or_eq_true, Bool.and_eq_true, Bool.not_eq_true', decide_eq_true_eq] at this
    rcases this with h | h
    · rw [List.any_eq_false] at h
      exact absurd (by simp [hd]) (h x hx)
    · exact ⟨h.1.1, h.1.2, h.2⟩
  · cases h
theorem Late.eff {ops : Array Oper} {il : List IOper} {j : Nat} {oj : Oper} {ioj : IOper} {z : List AV} {t : Nat} (h : Late ops il j oj ioj z t) : effO ioj = true := by simp [effO, Sx.eff, h.op]
theorem Late.eff' {ops : Array Oper} {il : List IOper} {j : Nat} (h : lateB ops il j = true) {io : IOper} (hj : il[j]? = some io) : effO io = true := by
  obtain ⟨oj, ioj, z, t, hl⟩ := lateB_spec h
  rw [hl.io] at hj; cases hj
  exact hl.eff
def pairOk (ops : Array Oper) (il : List IOper) (i j : Nat) : Bool :=
  match ops[i]?, ops[j]?, il[i]?, il[j]? with
  | some oi, some oj, some ioi, some ioj =>
    (!((reads ops oi).any fun t => oj.dst == some t) || (preds oi).contains j || (decide (i < j) && reachB ops 6 oj i)) && (i == j || oi.dst.isNone || oi.dst != oj.dst) &&
      (!effO ioi || (!ioi.loose && (i == j || heapFree ioj.op || ioj.loose || (if j < i then reachB ops 6 oi j || (lateB ops il i && effO ioj) else reachB ops 6 oj i || lateB ops il j))))
  | _, _, _, _ => false
def looseOk (ops : Array Oper) (il : List IOper) (i : Nat) : Bool := match il[i]? with
  | some io => !io.loose || (match ops[i + cut io.dst.toList (il.drop (i + 1)) + 1]?, il[i + cut io.dst.toList (il.drop (i + 1)) + 1]? with
    | some oj, some ij => effO ij && reachB ops 6 oj i
    | _, _ => true)
  | none => true
/-- What a region in an open order must be for its proof in the order of the text to hold of every order. -/
def drawOK (ops : Array Oper) (il : List IOper) : Bool :=
  ((List.range ops.size).all fun i => match ops[i]? with | some o => (preds o).all (· < i) | none => false) &&
    ((List.range ops.size).all fun i => (List.range ops.size).all fun j => pairOk ops il i j) && (List.range ops.size).all fun i => looseOk ops il i

structure PairOk (ops : Array Oper) (il : List IOper) (oi oj : Oper) (ioi ioj : IOper) (i j : Nat) : Prop where
  read : ∀ t ∈ reads ops oi, oj.dst = some t → j ∈ preds oi ∨ (i < j ∧ reachB ops 6 oj i = true)
  dst : i ≠ j → ∀ t, oi.dst = some t → oj.dst ≠ some t
  eff : effO ioi = true → ioi.loose = false ∧ (i = j ∨ heapFree ioj.op = true ∨ ioj.loose = true ∨ (j < i ∧ (reachB ops 6 oi j = true ∨ (lateB ops il i = true ∧ effO ioj = true))) ∨ (i < j ∧ (reachB ops 6 oj i = true ∨ lateB ops il j = true)))

theorem drawOK_spec {ops : Array Oper} {il : List IOper} (h : drawOK ops il = true) :
    (∀ (i : Nat) o, ops[i]? = some o → ∀ e ∈ preds o, e < i) ∧
    (∀ (i j : Nat) oi oj ioi ioj, ops[i]? = some oi → ops[j]? = some oj → il[i]? = some ioi → il[j]? = some ioj → PairOk ops il oi oj ioi ioj i j) ∧
    ∀ (i : Nat) oi io oj ij, ops[i]? = some oi → il[i]? = some io → io.loose = true → ops[i + cut io.dst.toList (il.drop (i + 1)) + 1]? = some oj → il[i + cut io.dst.toList (il.drop (i + 1)) + 1]? = some ij → effO ij = true ∧ reachB ops 6 oj i = true := by
  simp only [drawOK, Bool.and_eq_true, List.all_eq_true, List.mem_range] at h
  obtain ⟨⟨h1, h2⟩, h3⟩ := h
  refine ⟨fun i o ho e he => ?_, fun i j oi oj ioi ioj hi hj hi' hj' => ?_, fun i oi io oj ij hi hi' hl hj hj' => ?_⟩
  rotate_right
  · have := h3 i (Array.getElem?_eq_some_iff.1 hi).1
    simp only [looseOk, hi', hl, Bool.not_true, Bool.false_or, hj, hj', Bool.and_eq_true] at this
    exact this
  · have := h1 i (Array.getElem?_eq_some_iff.1 ho).1
    simp only [ho, List.all_eq_true, decide_eq_true_eq] at this
    exact this e he
  · have := h2 i (Array.getElem?_eq_some_iff.1 hi).1 j (Array.getElem?_eq_some_iff.1 hj).1
    simp only [pairOk, hi, hj, hi', hj', Bool.and_eq_true, Bool.or_eq_true, Bool.not_eq_true', bne_iff_ne, ne_eq, List.contains_iff_mem, beq_iff_eq, decide_eq_true_eq] at this
    obtain ⟨⟨h3, h4⟩, h5⟩ := this
    refine ⟨fun t ht e => ?_, fun hne t e e' => ?_, fun he => ?_⟩
    · rcases h3 with (h3 | h3) | h3
      · rw [List.any_eq_false] at h3
        exact absurd (by simp [e]) (h3 t ht)
      · exact .inl h3
      · exact .inr h3
    · rcases h4 with (h4 | h4) | h4
      · exact hne h4
      · rw [e] at h4; cases h4
      · exact h4 (by rw [e, e'])
    · rcases h5 with h5 | ⟨h5, h6⟩
      · rw [he] at h5; cases h5
      · refine ⟨h5, ?_⟩
        rcases h6 with ((h6 | h6) | h6) | h6
        · exact .inl h6
        · exact .inr (.inl h6)
        · exact .inr (.inr (.inl h6))
        · by_cases hij : i = j
          · exact .inl hij
          · split at h6
            · rename_i hlt
              simp only [Bool.or_eq_true, Bool.and_eq_true] at h6
              exact .inr (.inr (.inr (.inl ⟨hlt, h6⟩)))
            · simp only [Bool.or_eq_true] at h6
              exact .inr (.inr (.inr (.inr ⟨by omega, h6⟩)))

section
variable {P : Program} {Γ : FuncId → Ctr} {nt : Nat}

/-- The run in the order of the text. -/ noncomputable def tr (Γ : FuncId → Ctr) : List IOper → Nat → AS → AS
  | _, 0, s => s
  | [], _ + 1, s => s
  | o :: l, k + 1, s => tr Γ l k (stp Γ o s)
theorem tr_succ : ∀ (il : List IOper) (k : Nat) (s : AS) (o : IOper), il[k]? = some o → tr Γ il (k + 1) s = stp Γ o (tr Γ il k s)
  | o' :: l, 0, s, o, h => by simp at h; subst h; simp [tr]
  | o' :: l, k + 1, s, o, h => by
    simp only [tr]
    exact tr_succ l k _ o (by simpa using h)
  | [], _, _, _, h => by simp at h
theorem chain_spec : ∀ (il : List IOper) (K : AS → Prop) (s : AS), vcChain Γ il K s → K (tr Γ il il.length s) ∧ ∀ (k : Nat) o, il[k]? = some o → preS0 Γ o (tr Γ il k s) (tr Γ il k s).hp ∧ (effO o = false → hpS Γ o (tr Γ il k s) (tr Γ il k s).hp = (tr Γ il k s).hp)
  | [], K, s, h => ⟨h, fun k o h => by simp at h⟩
  | o :: l, K, s, h => by
    simp only [vcChain] at h
    obtain ⟨h1, h2, h3⟩ := h
    obtain ⟨h4, h5⟩ := chain_spec l K _ h3
    refine ⟨h4, fun k o' hk => ?_⟩
    cases k with
    | zero => simp at hk; subst hk; exact ⟨preS_old Γ h1, h2⟩
    | succ k => exact h5 k o' (by simpa using hk)
theorem heapsOf_mem : ∀ (il : List IOper) (k n : Nat) (s : AS), k < n → k ≤ il.length → (tr Γ il k s).hp ∈ (heapsOf Γ il s).take n
  | [], 0, n + 1, s, _, _ => by simp [tr, heapsOf]
  | o :: l, 0, n + 1, s, _, _ => by simp [tr, heapsOf]
  | o :: l, k + 1, n + 1, s, h, h' => by
    simp only [tr, heapsOf, List.take_succ_cons]
    exact List.mem_cons_of_mem _ (heapsOf_mem l k n _ (by omega) (by simpa using h'))
theorem loose_spec {hs : List (List AObj)} : ∀ (il : List IOper) (q : Nat) (s : AS), vcLoose Γ hs q il s → ∀ (k : Nat) o, il[k]? = some o → o.loose = true → ∀ h ∈ hs.take (q + k + cut o.dst.toList (il.drop (k + 1)) + 2), preS0 Γ o (tr Γ il k s) h ∧ valS Γ o (tr Γ il k s) h = valS Γ o (tr Γ il k s) (tr Γ il k s).hp ∧ hpS Γ o (tr Γ il k s) h = h
  | [], q, s, _, k, o, h => by simp at h
  | o :: l, q, s, hv, k, o', hk => by
    simp only [vcLoose] at hv
    cases k with
    | zero => simp at hk; subst hk; exact fun hl h hh => ⟨preS_old Γ (hv.1 hl h (by simpa using hh)).1, (hv.1 hl h (by simpa using hh)).2⟩
    | succ k => exact fun hl h hh => loose_spec l (q + 1) _ hv.2 k o' (by simpa using hk) hl h (by simpa [Nat.add_assoc, Nat.add_comm, Nat.add_left_comm] using hh)
theorem look_tr (il : List IOper) (s : AS) (t : Nat) : ∀ k, k ≤ il.length → look1 (tr Γ il k s).tm t = .any ∨ (∃ j io, j < k ∧ il[j]? = some io ∧ io.dst = some t ∧ look1 (tr Γ il k s).tm t = valS Γ io (tr Γ il j s) (tr Γ il j s).hp) ∨
    ((∀ j io, j < k → il[j]? = some io → io.dst ≠ some t) ∧ look1 (tr Γ il k s).tm t = look1 s.tm t) := by
  intro k
  induction k with
  | zero => intro _; exact .inr (.inr ⟨fun j io h => by omega, by cases il <;> simp [tr]⟩)
  | succ k ih =>
    intro hk
    have hk' : il[k]? = some il[k] := List.getElem?_eq_getElem (by omega)
    rw [tr_succ il k s _ hk']
    simp only [stp, upd, look1_wipe, look1_put1]
    split
    · exact .inl rfl
    · split
      · rename_i hd
        exact .inr (.inl ⟨k, _, by omega, hk', hd, rfl⟩)
      · rename_i hd
        rcases ih (by omega) with h | ⟨j, io, h1, h2, h3, h4⟩ | ⟨h1, h2⟩
        · exact .inl h
        · exact .inr (.inl ⟨j, io, by omega, h2, h3, h4⟩)
        · refine .inr (.inr ⟨fun j io hj hio => ?_, h2⟩)
          by_cases hjk : j = k
          · subst hjk; rw [hk'] at hio; cases hio; exact hd
          · exact h1 j io (by omega) hio

theorem heapFree_same {io : IOp} (h : heapFree io = true) (r : Opd → AV) (H H' : List AObj) : dpre Γ io r H = dpre Γ io r H' ∧ dval Γ io r H = dval Γ io r H' ∧ dhp Γ io r H = H := by
  cases io <;> first | (cases h; done) | exact ⟨rfl, rfl, rfl⟩
theorem heapFree_S {o : IOper} (h : heapFree o.op = true) {s : AS} {H H' : List AObj} (hp : preS0 Γ o s H) : preS0 Γ o s H' ∧ valS Γ o s H' = valS Γ o s H ∧ hpS Γ o s H' = H' := by
  have e := heapFree_same (Γ := Γ) h
  cases hg : o.guard with
  | none =>
    simp only [preS0, valS, hpS, hg] at *
    exact ⟨by rw [(e _ H' H).1]; exact hp, (e _ H' H).2.1, (e _ H' H).2.2⟩
  | some q =>
    obtain ⟨t, w⟩ := q
    simp only [preS0, valS, hpS, hg] at *
    refine ⟨⟨hp.1, fun hb => ?_⟩, ?_, trivial⟩
    · obtain ⟨h1, h2, h3⟩ := hp.2 hb
      exact ⟨by rw [(e _ H' H).1]; exact h1, by rw [(e _ H' H).2.1, (e _ H' H).2.1]; exact h2, (e _ H' H).2.2⟩
    · rw [(e _ H' H).2.1]

/-- From E to E': what is known of values stays. -/
structure Grow (E E' : Env) : Prop where
  keep : ∀ b, E.free b → E'.w.heap[b]? = E.w.heap[b]? ∧ E'.free b
  ids : ∀ id l, id < E.n → E'.s id = some l → E.s id = some l
  room : ∀ (b : Nat) (cs : Array Value) (e : TypeId) (fr : Nat × Nat), E.w.heap[b]? = some (.cells cs e fr) → ∃ cs' : Array Value, E'.w.heap[b]? = some (.cells cs' e fr) ∧ cs'.size = cs.size
  n : E.n ≤ E'.n
theorem Ext.toGrow {E E' : Env} (x : Ext E.n E E') : Grow E E' := ⟨x.keep, x.ids, x.room, x.m⟩
theorem VRel.grow {E E' : Env} (x : Grow E E') {a : AV} {v : Value} (h : VRel E a v) : VRel E' a v := by
  have hn := x.n
  induction h with
  | any v => exact .any v
  | bool b => exact .bool b
  | int k n => exact .int k n
  | str s => exact .str s
  | val v => exact .val v
  | nilp => exact .nilp
  | ptr hid h1 h => exact .ptr (by omega) h1 (fun l hl => h l (x.ids _ l hid hl))
  | vp c hb hc h1 h ih => exact .vp c (x.keep _ hb).2 (fun j hj => by rw [cell?_block (x.keep _ hb).1]; exact hc j hj) h1 ih
  | nils => exact .nils
  | sl hid h1 h =>
    refine .sl (by omega) h1 (fun l hl => ?_)
    obtain ⟨cap, i', hv, hc, ⟨cs, e, fr, hr1, hr2⟩, hi'⟩ := h l (x.ids _ l hid hl)
    obtain ⟨cs', k1, k2⟩ := x.room _ _ _ _ hr1
    exact ⟨cap, i', hv, hc, ⟨cs', e, fr, k1, by omega⟩, hi'⟩
  | view0 a cap => exact .view0 a cap
  | view c hb hcap hsz hc h1 h ih => exact .view c (x.keep _ hb).2 hcap hsz (fun i j hi hj => by rw [cell?_block (x.keep _ hb).1]; exact hc i j hi hj) h1 ih
  | cv h hc ih => exact .cv ih hc
  | nilm => exact .nilm
  | map hid h1 h => exact .map (by omega) h1 (fun l hl => h l (x.ids _ l hid hl))
  | fn hl hm h h' ih ih' => exact .fn hl hm ih ih'
  | agg hl h1 h ih => exact .agg hl h1 ih
  | tup hl h ih => exact .tup hl ih
  | opt h h' ih => exact .opt ih h'
theorem Grow.later {E E' : Env} (x : Grow E E') (hz : E.w.heap.size ≤ E'.w.heap.size) {k : Nat} (hb : E'.w.heap[k]? = E.w.heap[k]?) (hs : E.Same E' k) : Later k E E' :=
  ⟨hz, fun b h => h.elim (fun h => h ▸ hb) (hs b).1, fun b => (hs b).2, x.keep, x.room⟩
theorem ORel.grow {E E' : Env} (x : Grow E E') (hz : E.w.heap.size ≤ E'.w.heap.size) {o : AObj} {l : Loc} (h : ORel E o l) (hb : E'.w.heap[l.b]? = E.w.heap[l.b]?) (hs : E.Same E' l.b) : ORel E' o l := by
  cases h with
  | thing hlt h => exact .thing (Nat.lt_of_lt_of_le hlt hz) fun E2 h2 => h E2 ((x.later hz hb hs).trans h2)
  | rows cs e hs hb' hl hr h1 h => exact .rows cs e hs (hb.trans hb') hl hr h1 (fun i r j a v h1 h2 h3 => (h i r j a v h1 h2 h3).grow x)
  | imap ms ck hb' hmo hl hk => exact .imap ms ck (hb.trans hb') hmo hl (fun i y m h1 h2 => ⟨(hk i y m h1 h2).1, (hk i y m h1 h2).2.grow x⟩)
/-- But for some. -/
def Foe.less (x : Foe) (Q : Nat → Prop) : Foe := ⟨fun b => x b ∧ ¬ Q b, x.r⟩
theorem Foe.less_none {x : Foe} {Q : Nat → Prop} (h : ∀ b, ¬ Q b) : x.less Q = x := by
  unfold Foe.less
  have : (fun b => x b ∧ ¬ Q b) = x.p := funext fun b => propext ⟨fun a => a.1, fun a => ⟨a, h b⟩⟩
  rw [this]
theorem Ext.under {m : Nat} {E0 E E1 : Env} {X : Nat → Prop} (h : Ext m E0 ⟨E.w, E.s, E.n, E.x.less X⟩) (hx : ∀ b, X b → E.out b) (hX : ∀ b, X b → E0.w.heap.size ≤ b) (k : Ext E.n E E1) : Ext m E0 ⟨E1.w, E1.s, E1.n, E1.x.less X⟩ where
  os := k.os.trans h.os
  tape := k.tape.trans h.tape
  output := k.output.trans h.output
  size := Nat.le_trans h.size k.size
  keep := fun b hb => by
    obtain ⟨h1, h2, h3, h4⟩ := h.keep b hb
    have hf : E.free b := ⟨h2, h3, fun hxb => h4 ⟨hxb, fun h5 => by have := hX b h5; have := hb.1; omega⟩⟩
    obtain ⟨k1, k2, k3, k4⟩ := k.keep b hf
    exact ⟨k1.trans h1, k2, k3, fun h5 => k4 h5.1⟩
  ids := fun id l hid hl => h.ids id l hid (k.ids id l (Nat.lt_of_lt_of_le hid h.m) hl)
  room := fun b cs e fr hb => by
    obtain ⟨c1, h1, e1⟩ := h.room b cs e fr hb
    obtain ⟨c2, h2, e2⟩ := k.room b c1 e fr h1
    exact ⟨c2, h2, e2.trans e1⟩
  m := Nat.le_trans h.m k.m
  x := fun b => by
    rw [← h.x b]
    constructor
    · rintro ⟨⟨h1, h2⟩, h3⟩
      obtain ⟨h4, h5⟩ := (k.x b).1 ⟨h1, h3⟩
      exact ⟨⟨h4, h2⟩, h5⟩
    · rintro ⟨⟨h1, h2⟩, h3⟩
      obtain ⟨h4, h5⟩ := (k.x b).2 ⟨h1, h3⟩
      exact ⟨⟨h4, h2⟩, h5⟩
  keepx := fun b hb => by
    obtain ⟨⟨h1, _⟩, h3⟩ := (h.x b).2 hb
    exact (k.keepx b ⟨h1, h3⟩).trans (h.keepx b hb)

/-- A block that waits for the text: what is in it. -/
structure Waits (il : List IOper) (E0 : Env) (a : Act) (E : Env) (j b : Nat) : Prop where
  is : ∃ (io : IOper) (z : List AV) (t : Nat) (vs : Array Value) (e : TypeId), (il[j]? = some io ∧ io.op = .alloc z ∧ io.guard = none ∧ io.dst = some t) ∧ E.w.heap[b]? = some (.cells vs e (0, 0)) ∧ (∀ E, CellsRel E z vs) ∧ a.tmps.getD t undef = .pointer (some ⟨b, 0, none⟩)
  new : E0.w.heap.size ≤ b
/-- Of the frame and the world, when some are done; q: the blocks that wait. -/
structure Inv (Γ : FuncId → Ctr) (nt m : Nat) (ops : Array Oper) (il : List IOper) (s0 : AS) (E0 : Env) (listed : Array Bool) (a : Act) (E : Env) (p : Nat) (q : Nat → Option Nat) : Prop where
  defers : a.defers = []
  len : a.tmps.size = nt
  ext : Ext m E0 ⟨E.w, E.s, E.n, E.x.less fun b => ∃ j, q j = some b⟩
  hp : HRel E (tr Γ il p s0).hp
  ple : p ≤ il.length
  effs : ∀ (j : Nat) io, il[j]? = some io → effO io = true → lateB ops il j = false → (listed.getD j false = true ↔ j < p)
  lates : ∀ (j : Nat), lateB ops il j = true → j < p → listed.getD j false = true
  pend : ∀ (j : Nat), lateB ops il j = true → listed.getD j false = true → p ≤ j → ∃ b, q j = some b
  pnd : ∀ j b, q j = some b → Waits il E0 a E j b
  qle : ∀ j b, q j = some b → p ≤ j
  ql : ∀ j b, q j = some b → listed.getD j false = true
  qinj : ∀ j k b, q j = some b → q k = some b → j = k
  x : ∀ b, (∃ j, q j = some b) → E.out b
  down : ∀ (j : Nat) o, ops[j]? = some o → listed.getD j false = true → ∀ e ∈ preds o, listed.getD e false = true
  own : ∀ (j : Nat) io t, il[j]? = some io → io.dst = some t → listed.getD j false = true → (lateB ops il j = false ∨ j < p) → VRel E (valS Γ io (tr Γ il j s0) (tr Γ il j s0).hp) (a.tmps.getD t undef)
  old : ∀ t, (∀ (j : Nat) io, il[j]? = some io → io.dst = some t → listed.getD j false = false) → VRel E (look1 s0.tm t) (a.tmps.getD t undef)
  lsize : listed.size = ops.size

theorem hp_same {il : List IOper} {s : AS} (hne : ∀ (k : Nat) o, il[k]? = some o → effO o = false → hpS Γ o (tr Γ il k s) (tr Γ il k s).hp = (tr Γ il k s).hp) :
    ∀ (d p : Nat), p + d ≤ il.length → (∀ (e : Nat) io, il[e]? = some io → effO io = true → ¬ (p ≤ e ∧ e < p + d)) → (tr Γ il (p + d) s).hp = (tr Γ il p s).hp
  | 0, p, _, _ => rfl
  | d + 1, p, h1, h2 => by
    have ih := hp_same hne d p (by omega) (fun e io he hf h => h2 e io he hf ⟨h.1, by omega⟩)
    have hk : il[p + d]? = some (il[p + d]'(by omega)) := List.getElem?_eq_getElem (by omega)
    rw [show p + (d + 1) = p + d + 1 from rfl, tr_succ il (p + d) s _ hk]
    simp only [stp]
    rw [hne (p + d) _ hk, ih]
    cases hb : effO (il[p + d]'(by omega))
    · rfl
    · exact absurd ⟨by omega, by omega⟩ (h2 (p + d) _ hk hb)
theorem hp_same' {il : List IOper} {s : AS} (hne : ∀ (k : Nat) o, il[k]? = some o → effO o = false → hpS Γ o (tr Γ il k s) (tr Γ il k s).hp = (tr Γ il k s).hp) {p q : Nat} (hp : p ≤ il.length) (hq : q ≤ il.length)
    (h : ∀ (e : Nat) io, il[e]? = some io → effO io = true → (e < p ↔ e < q)) : (tr Γ il p s).hp = (tr Γ il q s).hp := by
  by_cases hpq : p ≤ q
  · have := hp_same (s := s) hne (q - p) p (by omega) (fun e io he hf hh => by have := h e io he hf; omega)
    rw [show p + (q - p) = q by omega] at this
    exact this.symm
  · have := hp_same (s := s) hne (p - q) q (by omega) (fun e io he hf hh => by have := h e io he hf; omega)
    rw [show q + (p - q) = p by omega] at this
    exact this

theorem getD_set_iff {listed : Array Bool} {i j : Nat} (hi : i < listed.size) : (listed.setIfInBounds i true).getD j false = true ↔ listed.getD j false = true ∨ j = i := by
  by_cases h : i = j
  · subst h
    simp [Array.getD_eq_getD_getElem?, Array.getElem?_setIfInBounds_self_of_lt hi]
  · rw [getD_set_ne false h]
    constructor
    · exact .inl
    · rintro (h1 | h1)
      · exact h1
      · exact absurd h1.symm h

/-- The text comes to what waits. -/
theorem absorb1 {ops : Array Oper} {il : List IOper} {m : Nat} {s0 : AS} {E0 : Env} (hch : ∀ (k : Nat) o, il[k]? = some o → effO o = false → hpS Γ o (tr Γ il k s0) (tr Γ il k s0).hp = (tr Γ il k s0).hp)
    {listed : Array Bool} {a : Act} {E : Env} {p : Nat} {q : Nat → Option Nat} (hI : Inv Γ nt m ops il s0 E0 listed a E p q) {io : IOper} (hio : il[p]? = some io) (hl : effO io = true → listed.getD p false = true) :
    ∃ E' q', E'.w = E.w ∧ Inv Γ nt m ops il s0 E0 listed a E' (p + 1) q' := by
  have hlt := (List.getElem?_eq_some_iff.1 hio).1
  cases he : effO io
  · have heq : (tr Γ il (p + 1) s0).hp = (tr Γ il p s0).hp := by
      rw [tr_succ il p s0 _ hio]; simp only [stp]; exact hch p io hio he
    have hnl : lateB ops il p = false := by
      cases hb : lateB ops il p
      · rfl
      · have := Late.eff' hb hio; rw [he] at this; cases this
    have hq : ∀ b, q p ≠ some b := fun b hb => by
      obtain ⟨io', z, t, vs, e, ⟨h1, h2, h3, h4⟩, _⟩ := (hI.pnd p b hb).is
      rw [hio] at h1; cases h1
      simp [effO, eff, h2] at he
    refine ⟨E, q, rfl, hI.defers, hI.len, hI.ext, by rw [heq]; exact hI.hp, hlt, fun j ioj h1 h2 h3 => ?_, fun j h1 h2 => ?_, fun j h1 h2 h3 => hI.pend j h1 h2 (by omega), hI.pnd, fun j b hb => ?_, hI.ql, hI.qinj, hI.x, hI.down, fun j ioj t h1 h2 h3 h4 => hI.own j ioj t h1 h2 h3 ?_, hI.old, hI.lsize⟩
    · rw [hI.effs j ioj h1 h2 h3]
      have : j ≠ p := fun e => by subst e; rw [hio] at h1; cases h1; rw [he] at h2; cases h2
      omega
    · have : j ≠ p := fun e => by subst e; rw [hnl] at h1; cases h1
      exact hI.lates j h1 (by omega)
    · have := hI.qle j b hb
      have : j ≠ p := fun e => by subst e; exact hq b hb
      omega
    · rcases h4 with h4 | h4
      · exact .inl h4
      · by_cases hj : j = p
        · subst hj; exact .inl hnl
        · exact .inr (by omega)
  · have hlp := hl he
    have hlate : lateB ops il p = true := by
      cases hb : lateB ops il p
      · have := (hI.effs p io hio he hb).1 hlp; omega
      · rfl
    obtain ⟨b, hb⟩ := hI.pend p hlate hlp (Nat.le_refl _)
    obtain ⟨⟨io', z, t, vs, e, ⟨h1, h2, h3, hdt⟩, hheap, hcells, htm⟩, hnew⟩ := hI.pnd p b hb
    rw [hio] at h1; cases h1
    have hob : E.out b := hI.x b ⟨p, hb⟩
    have hxb : E.x b := hob.1
    have heq : (tr Γ il (p + 1) s0).hp = (tr Γ il p s0).hp ++ [.rows z.length [z]] := by
      rw [tr_succ il p s0 _ hio]; simp only [stp, hpS, h3, h2, dhp]
    have hval : valS Γ io (tr Γ il p s0) (tr Γ il p s0).hp = .ptr (tr Γ il p s0).hp.length 0 0 := by simp only [valS, h3, h2, dval]
    have hn := hI.hp.n
    let E' : Env := ⟨E.w, fun i => if i = E.n then some ⟨b, 0, z.length⟩ else E.s i, E.n + 1, E.x.less fun b' => b' = b⟩
    have es : ∀ i l, E'.s i = some l → (i = E.n ∧ l = ⟨b, 0, z.length⟩) ∨ (i ≠ E.n ∧ E.s i = some l) := fun i l h => by
      simp only [E'] at h
      split at h
      · rename_i hi; cases h; exact .inl ⟨hi, rfl⟩
      · rename_i hi; exact .inr ⟨hi, h⟩
    have es' : ∀ i l, i < E.n → E.s i = some l → E'.s i = some l := fun i l hi h => by
      simp only [E']; rw [if_neg (by omega)]; exact h
    have own_lt' : ∀ i l, E.s i = some l → i < E.n := fun i l h => by
      obtain ⟨o, ho, _⟩ := hI.hp.has i l h
      have := (List.getElem?_eq_some_iff.1 ho).1
      omega
    have g : Grow E E' := ⟨fun b' hb' => ⟨rfl, hb'.1, fun i l h => by
      rcases es i l h with ⟨_, rfl⟩ | ⟨_, h⟩
      · intro e; exact hb'.2.2 (by rw [← e]; exact hxb)
      · exact hb'.2.1 i l h, fun hx => hb'.2.2 hx.1⟩, fun i l hi h => by
      rcases es i l h with ⟨h, _⟩ | ⟨_, h⟩
      · omega
      · exact h, fun b cs e fr h => ⟨cs, h, rfl⟩, Nat.le_succ _⟩
    have same : ∀ k, E.Same E' k := fun k b' => ⟨fun _ => rfl, fun h => ⟨h.1.1, h.2⟩, fun h => ⟨⟨h.1, fun e => by
      have h1 := hob.2
      have h2 := h.2
      rw [e, h1] at h2; cases h2⟩, h.2⟩⟩
    have hH : HRel E' ((tr Γ il p s0).hp ++ [.rows z.length [z]]) := by
      refine ⟨by simp [E', hn], fun i l h => ?_, fun i o ho hd => ?_, fun i j li lj h1 h2 hbb => ?_, fun i l h => ?_, fun b' hb' => hI.hp.xlt b' hb'.1⟩
      · rcases es i l h with ⟨rfl, rfl⟩ | ⟨hi, h⟩
        · exact ⟨.rows z.length [z], by rw [hn]; simp, .one (e := e) (hcells _) hheap⟩
        · obtain ⟨o, ho, hr⟩ := hI.hp.has i l h
          have := (List.getElem?_eq_some_iff.1 ho).1
          exact ⟨o, by rw [List.getElem?_append_left this]; exact ho, hr.grow g (Nat.le_refl _) rfl (same _)⟩
      · by_cases hi : i < (tr Γ il p s0).hp.length
        · rw [List.getElem?_append_left hi] at ho
          obtain ⟨l, hl⟩ := hI.hp.live i o ho hd
          exact ⟨l, es' i l (by omega) hl⟩
        · have := (List.getElem?_eq_some_iff.1 ho).1
          simp at this
          have e : i = E.n := by omega
          exact ⟨_, by simp only [E']; rw [if_pos e]⟩
      · rcases es i li h1 with ⟨rfl, rfl⟩ | ⟨hi, h1⟩ <;> rcases es j lj h2 with ⟨rfl, rfl⟩ | ⟨hj, h2⟩
        · rfl
        · exact absurd (by rw [← hbb]; exact hxb) (hI.hp.apart j lj h2)
        · exact absurd (by rw [hbb]; exact hxb) (hI.hp.apart i li h1)
        · exact hI.hp.inj i j li lj h1 h2 hbb
      · rcases es i l h with ⟨rfl, rfl⟩ | ⟨hi, h⟩
        · exact fun hx => hx.2 rfl
        · exact fun hx => hI.hp.apart i l h hx.1
    have hqp : ∀ j b', (if j = p then none else q j) = some b' → j ≠ p ∧ q j = some b' := fun j b' h => by
      split at h
      · cases h
      · rename_i hj; exact ⟨hj, h⟩
    have key : ∀ b', (E'.x.less fun b => ∃ j, (if j = p then none else q j) = some b) b' ↔ (E.x.less fun b => ∃ j, q j = some b) b' := fun b' => by
      constructor
      · rintro ⟨⟨h1, h2⟩, h3⟩
        refine ⟨h1, fun ⟨j, h4⟩ => h3 ⟨j, ?_⟩⟩
        rw [if_neg (fun e => by subst e; rw [hb] at h4; cases h4; exact h2 rfl)]
        exact h4
      · rintro ⟨h1, h2⟩
        exact ⟨⟨h1, fun e => h2 ⟨p, by rw [e]; exact hb⟩⟩, fun ⟨j, h3⟩ => h2 ⟨j, (hqp j b' h3).2⟩⟩
    refine ⟨E', fun j => if j = p then none else q j, rfl, hI.defers, hI.len, ?_, by rw [heq]; exact hH, hlt, fun j ioj h1 h2 h3 => ?_, fun j h1 h2 => ?_, fun j h1 h2 h3 => ?_, fun j b' h => ?_, fun j b' h => ?_, fun j b' h => hI.ql j b' (hqp j b' h).2, fun j k b' h k' => ?_, fun b' => ?_, hI.down, fun j ioj t' h1 h2 h3 h4 => ?_, fun t' h => (hI.old t' h).grow g, hI.lsize⟩
    · refine ⟨hI.ext.os, hI.ext.tape, hI.ext.output, hI.ext.size, fun b' hb' => ?_, fun i l hi h => ?_, hI.ext.room, Nat.le_succ_of_le hI.ext.m, fun b' => ?_, hI.ext.keepx⟩
      · obtain ⟨k1, k2, k3, k4⟩ := hI.ext.keep b' hb'
        refine ⟨k1, k2, fun i l h => ?_, fun h => k4 ((key b').1 h)⟩
        rcases es i l h with ⟨_, rfl⟩ | ⟨_, h⟩
        · intro e; have := hb'.1; simp only at e; omega
        · exact k3 i l h
      · rcases es i l h with ⟨rfl, _⟩ | ⟨_, h⟩
        · have := hI.ext.m; simp only at this; omega
        · exact hI.ext.ids i l hi h
      · rw [← hI.ext.x b']
        exact ⟨fun h => ⟨(key b').1 h.1, h.2⟩, fun h => ⟨(key b').2 h.1, h.2⟩⟩
    · rw [hI.effs j ioj h1 h2 h3]
      have : j ≠ p := fun e => by subst e; rw [hlate] at h3; cases h3
      omega
    · by_cases hj : j = p
      · subst hj; exact hlp
      · exact hI.lates j h1 (by omega)
    · obtain ⟨b', hb'⟩ := hI.pend j h1 h2 (by omega)
      exact ⟨b', by rw [if_neg (by omega)]; exact hb'⟩
    · obtain ⟨_, h⟩ := hqp j b' h
      exact ⟨(hI.pnd j b' h).is, (hI.pnd j b' h).new⟩
    · obtain ⟨h5, h⟩ := hqp j b' h
      have := hI.qle j b' h
      omega
    · exact hI.qinj j k b' (hqp j b' h).2 (hqp k b' k').2
    · rintro ⟨j, h5⟩
      obtain ⟨h6, h5⟩ := hqp j b' h5
      obtain ⟨h7, h8⟩ := hI.x b' ⟨j, h5⟩
      exact ⟨⟨h7, fun e => by subst e; exact h6 (hI.qinj j p b' h5 hb)⟩, h8⟩
    · by_cases hj : j = p
      · subst hj
        rw [hio] at h1; cases h1
        rw [hdt] at h2; cases h2
        rw [hval, htm]
        refine .ptr (by simp [E', hn]) rfl fun l hl => ?_
        rw [← hn] at hl
        simp only [E', if_true] at hl
        cases hl
        simp
      · exact (hI.own j ioj t' h1 h2 h3 (h4.imp_right fun h => by omega)).grow g
theorem absorb {ops : Array Oper} {il : List IOper} {m : Nat} {s0 : AS} {E0 : Env} (hch : ∀ (k : Nat) o, il[k]? = some o → effO o = false → hpS Γ o (tr Γ il k s0) (tr Γ il k s0).hp = (tr Γ il k s0).hp)
    {listed : Array Bool} {a : Act} : ∀ (d : Nat) {E : Env} {p : Nat} {q : Nat → Option Nat}, Inv Γ nt m ops il s0 E0 listed a E p q → p + d ≤ il.length → (∀ (e : Nat) io, e < p + d → il[e]? = some io → effO io = true → listed.getD e false = true) →
    ∃ E' q', E'.w = E.w ∧ Inv Γ nt m ops il s0 E0 listed a E' (p + d) q'
  | 0, E, p, q, hI, _, _ => ⟨E, q, rfl, hI⟩
  | d + 1, E, p, q, hI, hle, hl => by
    have hp : il[p]? = some (il[p]'(by omega)) := List.getElem?_eq_getElem (by omega)
    obtain ⟨E1, q1, e1, h1⟩ := absorb1 hch hI hp fun he => hl p _ (by omega) hp he
    obtain ⟨E2, q2, e2, h2⟩ := absorb hch d h1 (by omega) fun e io h => hl e io (by omega)
    exact ⟨E2, q2, e2.trans e1, by rw [show p + (d + 1) = p + 1 + d by omega]; exact h2⟩

theorem inv_step (hG : Knows P Γ) {ops : Array Oper} {il : List IOper} {m : Nat} {s0 : AS} {E0 : Env} (hok : all2 (okOper P ops nt) ops.toList il = true) (hd : drawOK ops il = true)
    {K : AS → Prop} (hc : vcChain Γ il K s0) (hl : il.any (·.loose) = true → vcLoose Γ (heapsOf Γ il s0) 0 il s0) {listed : Array Bool} {a : Act} {E : Env} {p : Nat} {q : Nat → Option Nat} (hI : Inv Γ nt m ops il s0 E0 listed a E p q)
    {i : Nat} (hi : i ∈ Region.ready .any ops listed) {Q : Exit → Act → World → Prop} {next : Act → World → Prop}
    (hn : ∀ a' E' p' q', Inv Γ nt m ops il s0 E0 (listed.setIfInBounds i true) a' E' p' q' → next a' E'.w) : wpOp P ops Q i next a E.w := by
  obtain ⟨hback, hpair, hloose⟩ := drawOK_spec hd
  obtain ⟨hK, hch⟩ := chain_spec il K s0 hc
  obtain ⟨hun, o, ho, hpr⟩ := mem_ready.1 hi
  have hlen : ops.toList.length = il.length := all2_len hok
  have hilt : i < ops.size := (Array.getElem?_eq_some_iff.1 ho).1
  have hisz : i < listed.size := by rw [hI.lsize]; exact hilt
  have hiil : i < il.length := by simpa [← hlen] using hilt
  obtain ⟨io, hio⟩ : ∃ io, il[i]? = some io := ⟨_, List.getElem?_eq_getElem hiil⟩
  have hun' : listed.getD i false = false := by
    rw [Array.getD_eq_getD_getElem?, Array.getElem?_eq_getElem hisz] at hun ⊢
    exact hun
  have hoper : ∀ (j : Nat) oj ioj, ops[j]? = some oj → il[j]? = some ioj → okOper P ops nt oj ioj = true := fun j oj ioj h1 h2 => all2_at hok j oj ioj (by simpa using h1) h2
  have hoj : ∀ (j : Nat) ioj, il[j]? = some ioj → ∃ oj, ops[j]? = some oj ∧ okOper P ops nt oj ioj = true := fun j ioj h => by
    have hj : j < ops.size := by have := (List.getElem?_eq_some_iff.1 h).1; rw [← hlen] at this; simpa using this
    exact ⟨_, Array.getElem?_eq_getElem hj, hoper j _ _ (Array.getElem?_eq_getElem hj) h⟩
  have hpreds : ∀ e ∈ preds o, listed.getD e false = true := fun e he => by
    simp only [preds, List.mem_map, List.mem_filter] at he
    obtain ⟨x, ⟨h1, h2⟩, rfl⟩ := he
    exact hpr x (by simpa using h1) h2
  obtain ⟨hdst, hlt, hop⟩ := okOper_dst (hoper i o io ho hio)
  have hset : ∀ j, (listed.setIfInBounds i true).getD j false = true ↔ listed.getD j false = true ∨ j = i := fun j => getD_set_iff hisz
  have hdstne : ∀ (j : Nat) ioj t, il[j]? = some ioj → ioj.dst = some t → j ≠ i → o.dst ≠ some t := fun j ioj t hj ht hne => by
    obtain ⟨oj, hoj1, hoj2⟩ := hoj j ioj hj
    exact (hpair j i oj o ioj io hoj1 ho hj hio).dst hne t (by rw [(okOper_dst hoj2).1]; exact ht)
  have hput : ∀ v t, (a.put o.dst v).tmps.getD t undef = if o.dst = some t then v else a.tmps.getD t undef := fun v t => getD_put (by rw [hI.len, hdst]; exact hlt) t
  have hdown : ∀ (j : Nat) oj, ops[j]? = some oj → (listed.setIfInBounds i true).getD j false = true → ∀ e ∈ preds oj, (listed.setIfInBounds i true).getD e false = true := fun j oj hj hlj e he => by
    rw [hset] at hlj ⊢
    rcases hlj with hlj | hlj
    · exact .inl (hI.down j oj hj hlj e he)
    · subst hlj
      rw [ho] at hj; cases hj
      exact .inl (hpreds e he)
  have hqi : ∀ j b, q j = some b → j ≠ i := fun j b hb e => by
    have := hI.ql j b hb
    rw [e, hun'] at this; cases this
  by_cases hlate : lateB ops il i = true
  · obtain ⟨oj, ioj, z, t, hL⟩ := lateB_spec hlate
    have e1 := hL.o
    rw [ho] at e1; cases e1
    have e2 := hL.io
    rw [hio] at e2; cases e2
    have hop' := hop
    rw [hL.op] at hop'
    obtain ⟨t', hot, hz⟩ : ∃ t', o.op = .alloc t' ∧ zeroIs P t' z = true := by
      simp only [okOp] at hop'
      split at hop'
      · rename_i t' e; exact ⟨t', e, hop'⟩
      · cases hop'
    obtain ⟨ti, v, hi1, hi2, hcells⟩ := zeroIs_run hz
    have hrun : (execOp a.eval o).run P E.w = .ok (.value (.pointer (some ⟨E.w.heap.size, 0, none⟩))) (E.w.alloc (.cells v.cells t')) := by
      simp [execOp, hot, Instr.alloc, zeroValue, typeInfo, hi1, hi2, newVar, newRow]
    have tt : Turned E.w (E.w.alloc (.cells v.cells t')) (fun _ => False) := .push _ rfl rfl rfl rfl
    have hnewb : (E.w.alloc (.cells v.cells t')).heap[E.w.heap.size]? = some (.cells v.cells t' (0, 0)) := by
      show (E.w.heap.push _)[E.w.heap.size]? = _
      simp
    let E' : Env := ⟨E.w.alloc (.cells v.cells t'), E.s, E.n, ⟨fun b => E.x b ∨ b = E.w.heap.size, fun b => if b = E.w.heap.size then none else E.x.r b⟩⟩
    have g : Grow E E' := ⟨fun b hb => ⟨tt.keep b hb.1 (fun h => h), Nat.lt_of_lt_of_le hb.1 tt.size, hb.2.1, fun hx => by
      rcases hx with hx | hx
      · exact hb.2.2 hx
      · have := hb.1; omega⟩, fun _ _ _ h => h, tt.room, Nat.le_refl _⟩
    have same : ∀ k, E.Same E' k := fun k b => ⟨fun h => tt.keep b (hI.hp.xlt b h.1) (fun h => h), fun h => by
      obtain ⟨h1, h2⟩ := h
      have h2 : (if b = E.w.heap.size then none else E.x.r b) = some k := h2
      split at h2
      · cases h2
      · rename_i hne
        exact ⟨h1.resolve_right hne, h2⟩, fun h => ⟨.inl h.1, by
      have := hI.hp.xlt b h.1
      show (if b = E.w.heap.size then none else E.x.r b) = some k
      rw [if_neg (by omega)]; exact h.2⟩⟩
    have hH : HRel E' (tr Γ il p s0).hp := by
      refine ⟨hI.hp.n, fun id l hl => ?_, hI.hp.live, hI.hp.inj, fun id l hl hx => ?_, fun b hb => ?_⟩
      · obtain ⟨ob, ho1, hr⟩ := hI.hp.has id l hl
        exact ⟨ob, ho1, hr.grow g tt.size (tt.keep _ hr.lt (fun h => h)) (same _)⟩
      · rcases hx with hx | hx
        · exact hI.hp.apart id l hl hx
        · have := hI.hp.own_lt hl; omega
      · rcases hb with hb | hb
        · exact Nat.lt_of_lt_of_le (hI.hp.xlt b hb) tt.size
        · subst hb; exact (Array.getElem?_eq_some_iff.1 hnewb).1
    have hdt : o.dst = some t := by rw [hdst]; exact hL.dst
    have hg : o.guard = none := by
      have hg := hoper i o io ho hio
      simp only [okOper, Bool.and_eq_true] at hg
      have hg := hg.2
      split at hg
      · assumption
      · rename_i j w t' w' hg1 hg2; rw [hL.guard] at hg2; cases hg2
      · cases hg
    have hqlt : ∀ j b, q j = some b → b < E.w.heap.size := fun j b hb => hI.hp.xlt b (hI.x b ⟨j, hb⟩).1
    have key : ∀ b, (E'.x.less fun b => ∃ j, (if j = i then some E.w.heap.size else q j) = some b) b ↔ (E.x.less fun b => ∃ j, q j = some b) b := fun b => by
      constructor
      · rintro ⟨h1, h2⟩
        rcases h1 with h1 | h1
        · exact ⟨h1, fun ⟨j, h3⟩ => h2 ⟨j, by rw [if_neg (hqi j b h3)]; exact h3⟩⟩
        · exact absurd ⟨i, by rw [if_pos rfl, h1]⟩ h2
      · rintro ⟨h1, h2⟩
        refine ⟨.inl h1, fun ⟨j, h3⟩ => ?_⟩
        split at h3
        · have := hI.hp.xlt b h1; cases h3; omega
        · exact h2 ⟨j, h3⟩
    have hsz0 : E0.w.heap.size ≤ E.w.heap.size := hI.ext.size
    unfold wpOp
    simp only [ho]
    rw [if_pos (by simp [Region.wanted, hg])]
    refine .inl ?_
    simp only [Oper.wp, hrun, Oper.upon]
    refine hn _ E' p (fun j => if j = i then some E.w.heap.size else q j) ⟨by cases o.dst <;> exact hI.defers, by cases o.dst <;> simp [Act.put, hI.len], ?_, hH, hI.ple, fun j ioj h1 h2 h3 => ?_, fun j h1 h2 => (hset j).2 (.inl (hI.lates j h1 h2)), fun j h1 h2 h3 => ?_, fun j b h => ?_, fun j b h => ?_, fun j b h => ?_, fun j k b h k' => ?_, fun b => ?_, hdown, fun j ioj t2 h1 h2 h3 h4 => ?_, fun t2 h => ?_, by simp [hI.lsize]⟩
    · refine ⟨hI.ext.os, hI.ext.tape, hI.ext.output, Nat.le_trans hsz0 tt.size, fun b hb => ?_, hI.ext.ids, fun b cs e fr hb => ?_, hI.ext.m, fun b => ?_, fun b hb => ?_⟩
      · obtain ⟨k1, k2, k3, k4⟩ := hI.ext.keep b hb
        exact ⟨(tt.keep b k2 (fun h => h)).trans k1, Nat.lt_of_lt_of_le k2 tt.size, k3, fun h => k4 ((key b).1 h)⟩
      · obtain ⟨c1, k1, k2⟩ := hI.ext.room b cs e fr hb
        obtain ⟨c2, k3, k4⟩ := tt.room b c1 e fr k1
        exact ⟨c2, k3, k4.trans k2⟩
      · rw [← hI.ext.x b]
        have hr : b < E.w.heap.size → (if b = E.w.heap.size then none else E.x.r b) = E.x.r b := fun h => if_neg (by omega)
        constructor
        · rintro ⟨h1, h2⟩
          have h1 := (key b).1 h1
          exact ⟨h1, (hr (hI.hp.xlt b h1.1)).symm.trans h2⟩
        · rintro ⟨h1, h2⟩
          exact ⟨(key b).2 h1, (hr (hI.hp.xlt b h1.1)).trans h2⟩
      · exact (tt.keep b (hI.hp.xlt b ((hI.ext.x b).2 hb).1.1) (fun h => h)).trans (hI.ext.keepx b hb)
    · rw [hset, ← hI.effs j ioj h1 h2 h3]
      constructor
      · rintro (h | h)
        · exact h
        · subst h; rw [hlate] at h3; cases h3
      · exact .inl
    · by_cases hj : j = i
      · exact ⟨_, if_pos hj⟩
      · obtain ⟨b, hb⟩ := hI.pend j h1 (by
          rcases (hset j).1 h2 with h | h
          · exact h
          · exact absurd h hj) h3
        exact ⟨b, by rw [if_neg hj]; exact hb⟩
    · split at h
      · rename_i hj
        subst hj
        cases h
        exact ⟨⟨io, z, t, v.cells, t', ⟨hio, hL.op, hL.guard, hL.dst⟩, hnewb, hcells, by rw [hput, if_pos hdt]⟩, hsz0⟩
      · rename_i hj
        obtain ⟨⟨ioj, z', t2, vs, e, ⟨k1, k2, k3, k4⟩, k5, k6, k7⟩, k8⟩ := hI.pnd j b h
        exact ⟨⟨ioj, z', t2, vs, e, ⟨k1, k2, k3, k4⟩, (tt.keep b (hqlt j b h) (fun h => h)).trans k5, k6, by rw [hput, if_neg (hdstne j ioj t2 k1 k4 hj)]; exact k7⟩, k8⟩
    · split at h
      · rename_i hj
        subst hj
        refine Nat.le_of_not_lt fun hp => ?_
        have := hI.lates j hlate hp
        rw [hun'] at this; cases this
      · exact hI.qle j b h
    · split at h
      · rename_i hj; exact (hset j).2 (.inr hj)
      · exact (hset j).2 (.inl (hI.ql j b h))
    · split at h <;> split at k'
      · rename_i h5 h6; rw [h5, h6]
      · cases h
        have := hqlt k _ k'; omega
      · cases k'
        have := hqlt j _ h; omega
      · exact hI.qinj j k b h k'
    · rintro ⟨j, h⟩
      split at h
      · cases h; exact ⟨.inr rfl, if_pos rfl⟩
      · obtain ⟨h5, h6⟩ := hI.x b ⟨j, h⟩
        exact ⟨.inl h5, (if_neg (by have := hI.hp.xlt b h5; omega)).trans h6⟩
    · have hji : j ≠ i := fun e => by
        subst e
        rcases h4 with h4 | h4
        · rw [hlate] at h4; cases h4
        · have := hI.lates j hlate h4
          rw [hun'] at this; cases this
      rw [hput, if_neg (hdstne j ioj t2 h1 h2 hji)]
      refine (hI.own j ioj t2 h1 h2 ?_ h4).grow g
      rcases (hset j).1 h3 with h | h
      · exact h
      · exact absurd h hji
    · rw [hput, if_neg (fun e => by
        have := h i io hio (by rw [← hdst]; exact e)
        rw [(hset i).2 (.inr rfl)] at this; cases this)]
      refine (hI.old t2 fun j ioj h1 h2 => ?_).grow g
      have := h j ioj h1 h2
      cases hb : listed.getD j false
      · rfl
      · rw [(hset j).2 (.inl hb)] at this; cases this
  have hlate' : lateB ops il i = false := by simpa using hlate
  have ahead : heapFree io.op = false → io.loose = false → ∀ (e : Nat) ioe, il[e]? = some ioe → effO ioe = true → e < i → listed.getD e false = true := fun h1 h2 e ioe he hef hlt' => by
    obtain ⟨oe, hoe1, _⟩ := hoj e ioe he
    rcases ((hpair e i oe o ioe io hoe1 ho he hio).eff hef).2 with h | h | h | ⟨h, _⟩ | ⟨h, h'⟩
    · omega
    · rw [h1] at h; cases h
    · rw [h2] at h; cases h
    · omega
    · rcases h' with h' | h'
      · exact reach_listed hI.down 6 o e h' hpreds
      · rw [hlate'] at h'; cases h'
  have behind : heapFree io.op = false → io.loose = false → ∀ (e : Nat) ioe, il[e]? = some ioe → effO ioe = true → i ≤ e → ¬ e < p := fun h1 h2 e ioe he hef hle hp => by
    have hle' : listed.getD e false = true := by
      cases hb : lateB ops il e
      · exact (hI.effs e ioe he hef hb).2 hp
      · exact hI.lates e hb hp
    by_cases hei : e = i
    · subst hei; rw [hun'] at hle'; cases hle'
    · obtain ⟨oe, hoe1, _⟩ := hoj e ioe he
      rcases ((hpair e i oe o ioe io hoe1 ho he hio).eff hef).2 with h | h | h | ⟨h, h'⟩ | ⟨h, h'⟩
      · exact hei h
      · rw [h1] at h; cases h
      · rw [h2] at h; cases h
      · rcases h' with h' | ⟨_, h'⟩
        · have := reach_listed hI.down 6 oe i h' (hI.down e oe hoe1 hle'); rw [hun'] at this; cases this
        · have := (hI.effs i io hio h' hlate').2 (by omega); rw [hun'] at this; cases this
      · omega
  obtain ⟨E1, p1, q1, hw1, hI1, hheap1⟩ : ∃ E1 p1 q1, E1.w = E.w ∧ Inv Γ nt m ops il s0 E0 listed a E1 p1 q1 ∧ (heapFree io.op = false → io.loose = false → (tr Γ il p1 s0).hp = (tr Γ il i s0).hp ∧ (effO io = true → p1 = i) ∧ i ≤ p1) := by
    by_cases h1 : heapFree io.op = false
    · by_cases h2 : io.loose = false
      · by_cases hpi : p ≤ i
        · obtain ⟨E1, q1, e1, k1⟩ := absorb (fun k o h => (hch k o h).2) (i - p) hI (by omega) fun e ioe he hie hef => ahead h1 h2 e ioe hie hef (by omega)
          rw [show p + (i - p) = i by omega] at k1
          exact ⟨E1, i, q1, e1, k1, fun _ _ => ⟨rfl, fun _ => rfl, Nat.le_refl _⟩⟩
        · refine ⟨E, p, q, rfl, hI, fun _ _ => ⟨hp_same' (fun k o' h => (hch k o' h).2) hI.ple (by omega) fun e ioe he hef => ?_, fun he => ?_, by omega⟩⟩
          · have := behind h1 h2 e ioe he hef
            omega
          · have := behind h1 h2 i io hio he (Nat.le_refl _); omega
      · exact ⟨E, p, q, rfl, hI, fun _ h => absurd h h2⟩
    · exact ⟨E, p, q, rfl, hI, fun h => absurd h h1⟩
  rw [← hw1]
  have hnf : effO io = true → heapFree io.op = false := fun he => by cases hq : io.op <;> simp [hq, heapFree, effO, isCallO, Sx.eff] at he ⊢
  have hnl : effO io = true → io.loose = false := fun he => ((hpair i i o o io io ho ho hio hio).eff he).1
  -- the state in the order of the text
  have hslot : ∀ t ∈ reads ops o, VRel E1 (look1 (tr Γ il i s0).tm t) (a.tmps.getD t undef) := fun t ht => by
    rcases look_tr (Γ := Γ) il s0 t i (by omega) with h | ⟨j, ioj, h1, h2, h3, h4⟩ | ⟨h1, h2⟩
    · rw [h]; exact .any _
    · rw [h4]
      obtain ⟨oj, hoj1, hoj2⟩ := hoj j ioj h2
      have hdj : oj.dst = some t := by rw [(okOper_dst hoj2).1]; exact h3
      rcases (hpair i j o oj io ioj ho hoj1 hio h2).read t ht hdj with hm | hm
      · refine hI1.own j ioj t h2 h3 (hpreds j hm) ?_
        cases hb : lateB ops il j
        · exact .inl rfl
        · obtain ⟨oj', ioj', z, t', hL⟩ := lateB_spec hb
          have e1 := hL.o
          rw [hoj1] at e1; cases e1
          obtain ⟨k1, k2, k3⟩ := hL.read i o io ho hio ⟨t, ht, hdj⟩
          have := (hheap1 (hnf k1) (hnl k1)).2.2
          exact .inr (by omega)
      · omega
    · rw [h2]
      refine hI1.old t fun j ioj h3 h4 => ?_
      obtain ⟨oj, hoj1, hoj2⟩ := hoj j ioj h3
      rcases (hpair i j o oj io ioj ho hoj1 hio h3).read t ht (by rw [(okOper_dst hoj2).1]; exact h4) with hm | ⟨hm, hm'⟩
      · exact absurd h4 (h1 j ioj (hback i o ho j hm) h3)
      · cases hb : listed.getD j false
        · rfl
        · have := reach_listed hI.down 6 oj i hm' (hI.down j oj hoj1 hb)
          rw [hun'] at this; cases this
  have hrel : OpsRel E1 (tr Γ il i s0).ev a o := ⟨fun x y hx hy => by
    unfold opdOk at hy
    split at hy
    · rename_i t n
      simp at hy; subst hy
      exact hslot t (by simp only [reads, List.mem_append, List.mem_filterMap]; exact .inl ⟨_, by simpa using hx, rfl⟩)
    · rename_i t n
      simp at hy; subst hy
      exact (hslot t (by simp only [reads, List.mem_append, List.mem_filterMap]; exact .inl ⟨_, by simpa using hx, rfl⟩)).res
    · exact .const hy
    · simp at hy; subst hy
      exact .fn (vs := []) (ws := []) rfl rfl (fun i a v h => by simp at h) (fun i a v h => by simp at h)
    · cases hy⟩
  -- at the heap that there is
  have hheap : preS0 Γ io (tr Γ il i s0) (tr Γ il p1 s0).hp ∧ valS Γ io (tr Γ il i s0) (tr Γ il p1 s0).hp = valS Γ io (tr Γ il i s0) (tr Γ il i s0).hp ∧
      (effO io = false → hpS Γ io (tr Γ il i s0) (tr Γ il p1 s0).hp = (tr Γ il p1 s0).hp) ∧ (effO io = true → (tr Γ il p1 s0).hp = (tr Γ il i s0).hp) := by
    have hown := hch i io hio
    by_cases hhf : heapFree io.op = true
    · obtain ⟨h1, h2, h3⟩ := heapFree_S hhf (H' := (tr Γ il p1 s0).hp) hown.1
      exact ⟨h1, h2, fun _ => h3, fun he => by rw [hnf he] at hhf; cases hhf⟩
    · by_cases hlo : io.loose = true
      · have hany : il.any (·.loose) = true := List.any_eq_true.2 ⟨io, List.mem_of_getElem? hio, hlo⟩
        have hple : p1 < 0 + i + cut io.dst.toList (il.drop (i + 1)) + 2 := by
          by_cases hj : i + cut io.dst.toList (il.drop (i + 1)) + 1 < il.length
          · obtain ⟨oj, hoj1, hoj2⟩ := hoj _ _ (List.getElem?_eq_getElem hj)
            obtain ⟨he, hr⟩ := hloose i o io oj _ ho hio hlo hoj1 (List.getElem?_eq_getElem hj)
            by_cases hp : i + cut io.dst.toList (il.drop (i + 1)) + 1 < p1
            · have hls : listed.getD (i + cut io.dst.toList (il.drop (i + 1)) + 1) false = true := by
                cases hb : lateB ops il (i + cut io.dst.toList (il.drop (i + 1)) + 1)
                · exact (hI1.effs _ _ (List.getElem?_eq_getElem hj) he hb).2 hp
                · exact hI1.lates _ hb hp
              have := reach_listed hI.down 6 oj i hr (hI.down _ oj hoj1 hls)
              rw [hun'] at this; cases this
            · omega
          · have := hI1.ple; omega
        obtain ⟨h1, h2, h3⟩ := loose_spec il 0 s0 (hl hany) i io hio hlo _ (heapsOf_mem il p1 _ s0 hple hI1.ple)
        exact ⟨h1, h2, fun _ => h3, fun he => by rw [hnl he] at hlo; cases hlo⟩
      · have e := (hheap1 (by simpa using hhf) (by simpa using hlo)).1
        rw [e]
        exact ⟨hown.1, rfl, hown.2, fun _ => rfl⟩
  obtain ⟨hh1, hh2, hh3, hh4⟩ := hheap
  have hqi1 : ∀ j b, q1 j = some b → j ≠ i := fun j b hb e => by
    have := hI1.ql j b hb
    rw [e, hun'] at this; cases this
  -- what follows
  have follow : ∀ v E' H', VRel E' (valS Γ io (tr Γ il i s0) (tr Γ il i s0).hp) v → HRel E' H' → H' = hpS Γ io (tr Γ il i s0) (tr Γ il p1 s0).hp → Ext E1.n E1 E' → next (a.put o.dst v) E'.w := fun v E' H' hv hH hH' hx => by
    have g := hx.toGrow
    have main : ∀ p', p1 ≤ p' → (∀ j, j < p' → j ≠ i → j < p1) → (∀ j b, q1 j = some b → p' ≤ j) → p' ≤ il.length → HRel E' (tr Γ il p' s0).hp → (∀ (j : Nat) ioj, il[j]? = some ioj → effO ioj = true → lateB ops il j = false → ((listed.setIfInBounds i true).getD j false = true ↔ j < p')) → Inv Γ nt m ops il s0 E0 (listed.setIfInBounds i true) (a.put o.dst v) E' p' q1 := fun p' h0 h00 h01 h1 h2 h3 => by
      refine ⟨by cases o.dst <;> exact hI1.defers, by cases o.dst <;> simp [Act.put, hI1.len], Ext.under hI1.ext hI1.x (fun b ⟨j, hb⟩ => (hI1.pnd j b hb).new) hx, h2, h1, h3, fun j hb hj => ?_, fun j hb hlj hj => ?_, fun j b h => ?_, h01, fun j b h => (hset j).2 (.inl (hI1.ql j b h)), hI1.qinj, fun b h => (hx.x b).2 (hI1.x b h), hdown, fun j ioj t hj ht hlj h4 => ?_, fun t ht => ?_, by simp [hI.lsize]⟩
      · by_cases hji : j = i
        · exact (hset j).2 (.inr hji)
        · exact (hset j).2 (.inl (hI1.lates j hb (h00 j hj hji)))
      · rcases (hset j).1 hlj with h | h
        · exact hI1.pend j hb h (by omega)
        · rw [h, hlate'] at hb; cases hb
      · obtain ⟨⟨ioj, z', t2, vs, e, ⟨k1, k2, k3, k4⟩, k5, k6, k7⟩, k8⟩ := hI1.pnd j b h
        exact ⟨⟨ioj, z', t2, vs, e, ⟨k1, k2, k3, k4⟩, (hx.keepx b (hI1.x b ⟨j, h⟩)).trans k5, k6, by rw [hput, if_neg (hdstne j ioj t2 k1 k4 (hqi1 j b h))]; exact k7⟩, k8⟩
      · rw [hput]
        by_cases hij : j = i
        · subst hij
          rw [hio] at hj; cases hj
          rw [if_pos (by rw [hdst]; exact ht)]
          exact hv
        · rw [if_neg (hdstne j ioj t hj ht hij)]
          rcases (hset j).1 hlj with hlj | hlj
          · exact (hI1.own j ioj t hj ht hlj (h4.imp_right fun h => h00 j h hij)).grow g
          · exact absurd hlj hij
      · have hnew : (listed.setIfInBounds i true).getD i false = true := (hset i).2 (.inr rfl)
        rw [hput, if_neg (by rw [hdst]; intro e; have := ht i io hio e; rw [hnew] at this; cases this)]
        refine (hI1.old t fun j ioj h1 h2 => ?_).grow g
        have := ht j ioj h1 h2
        cases hb : listed.getD j false
        · rfl
        · rw [(hset j).2 (.inl hb)] at this; cases this
    cases he : effO io
    · refine hn _ E' p1 q1 (main p1 (Nat.le_refl _) (fun j h _ => h) hI1.qle hI1.ple (by rw [← hh3 he, ← hH']; exact hH) fun j ioj hj hje hlj => ?_)
      rw [hset, hI1.effs j ioj hj hje hlj]
      constructor
      · rintro (h | h)
        · exact h
        · subst h; rw [hio] at hj; cases hj; rw [he] at hje; cases hje
      · exact .inl
    · have e1 := hh4 he
      obtain ⟨_, hp1, _⟩ := hheap1 (hnf he) (hnl he)
      have hp1 := hp1 he
      refine hn _ E' (i + 1) q1 (main (i + 1) (by omega) (fun j h h' => by omega) (fun j b h => by have := hI1.qle j b h; have := hqi1 j b h; omega) (by omega) (by rw [tr_succ il i s0 io hio]; simp only [stp]; rw [← e1, ← hH']; exact hH) fun j ioj hj hje hlj => ?_)
      rw [hset, hI1.effs j ioj hj hje hlj, hp1]
      constructor
      · rintro (h | h) <;> omega
      · intro h; omega
  unfold wpOp
  simp only [ho]
  have hg := hoper i o io ho hio
  simp only [okOper, Bool.and_eq_true] at hg
  have hg := hg.2
  split at hg
  · rename_i hg1 hg2
    rw [if_pos (by simp [Region.wanted, hg1])]
    simp only [preS0, hg2] at hh1
    have hv : valS Γ io (tr Γ il i s0) (tr Γ il p1 s0).hp = dval Γ io.op (tr Γ il i s0).ev (tr Γ il p1 s0).hp := by simp only [valS, hg2]
    have hq : hpS Γ io (tr Γ il i s0) (tr Γ il p1 s0).hp = dhp Γ io.op (tr Γ il i s0).ev (tr Γ il p1 s0).hp := by simp only [hpS, hg2]
    refine .inl (dfun_sound hG hop hh1 E1 a _ Q hrel hI1.hp fun v E' x H' h1 h2 h3 ⟨e1, e2⟩ => follow v E' H' ?_ h2 (by rw [e2, hq]) h3)
    rw [← hh2, hv, ← e1]; exact h1
  · rename_i j w t w' hg1 hg2
    simp only [Bool.and_eq_true, beq_iff_eq] at hg
    obtain ⟨rfl, hj⟩ := hg
    simp only [preS0, hg2] at hh1
    have hw := wanted_gb (a := a) (E := E1) hg1 hj (hslot t (by simp only [reads, List.mem_append]; exact .inr (by simp [guardT, hg1, hj]))) hh1.1
    have hv : valS Γ io (tr Γ il i s0) (tr Γ il p1 s0).hp = .opt (gb (look1 (tr Γ il i s0).tm t) w) (dval Γ io.op (tr Γ il i s0).evs (tr Γ il p1 s0).hp) := by simp only [valS, hg2]
    have hq : hpS Γ io (tr Γ il i s0) (tr Γ il p1 s0).hp = (tr Γ il p1 s0).hp := by simp only [hpS, hg2]
    cases hb : gb (look1 (tr Γ il i s0).tm t) w
    · rw [if_neg (by rw [hw, hb]; simp)]
      refine follow undef E1 _ ?_ hI1.hp hq.symm (Ext.refl (Nat.le_refl _))
      rw [← hh2, hv, hb]
      exact .opt (fun h => by cases h) (fun _ => rfl)
    · rw [if_pos (by rw [hw, hb])]
      obtain ⟨h5, h6, h7⟩ := hh1.2 hb
      refine .inl (dfun_sound hG hop h5 E1 a _ Q hrel hI1.hp fun v E' x H' h1 h2 h3 ⟨e1, e2⟩ => follow v E' H' ?_ h2 (by rw [e2, hq, h7]) h3)
      rw [← hh2, hv, hb]
      exact .opt (fun _ => by rw [← h6, ← e1]; exact h1) (fun h => by cases h)
  · cases hg

/-- How many aren't done. -/
def left (n : Nat) (listed : Array Bool) : Nat := ((List.range n).filter fun i => !listed.getD i false).length
theorem left_set {n : Nat} {listed : Array Bool} {i : Nat} (hi : i < n) (hs : i < listed.size) (hu : listed.getD i false = false) : left n (listed.setIfInBounds i true) < left n listed := by
  unfold left
  have key : ∀ l : List Nat, (l.filter fun j => !(listed.setIfInBounds i true).getD j false).length ≤ (l.filter fun j => !listed.getD j false).length ∧ (i ∈ l → (l.filter fun j => !(listed.setIfInBounds i true).getD j false).length < (l.filter fun j => !listed.getD j false).length) := by
    intro l
    induction l with
    | nil => simp
    | cons x l ih =>
      have hx : (listed.setIfInBounds i true).getD x false = true ↔ listed.getD x false = true ∨ x = i := getD_set_iff hs
      by_cases hxi : x = i
      · subst hxi
        have h1 : (listed.setIfInBounds x true).getD x false = true := hx.2 (.inr rfl)
        simp only [List.filter_cons, h1, hu, Bool.not_true, Bool.not_false, if_true, Bool.false_eq_true, if_false, List.length_cons]
        exact ⟨by omega, fun _ => by omega⟩
      · have h1 : (listed.setIfInBounds i true).getD x false = listed.getD x false := getD_set_ne false (fun e => hxi e.symm)
        simp only [List.filter_cons, h1]
        cases listed.getD x false
        · simp only [Bool.not_false, if_true, List.length_cons]
          exact ⟨by omega, fun h => by
            rcases List.mem_cons.1 h with h | h
            · exact absurd h.symm hxi
            · have := ih.2 h; omega⟩
        · simp only [Bool.not_true, Bool.false_eq_true, if_false]
          exact ⟨ih.1, fun h => by
            rcases List.mem_cons.1 h with h | h
            · exact absurd h.symm hxi
            · exact ih.2 h⟩
  exact (key _).2 (List.mem_range.2 hi)

theorem all_listed {ops : Array Oper} {il : List IOper} (hd : drawOK ops il = true) {listed : Array Bool} (hr : Region.ready .any ops listed = []) (hs : listed.size = ops.size) : ∀ i, i < ops.size → listed.getD i false = true := by
  obtain ⟨hback, _⟩ := drawOK_spec hd
  intro i
  induction i using Nat.strongRecOn with
  | _ i ih =>
    intro hi
    cases hl : listed.getD i false
    · have ho : ops[i]? = some ops[i] := Array.getElem?_eq_getElem hi
      have : i ∈ Region.ready .any ops listed := mem_ready.2 ⟨by
        rw [Array.getD_eq_getD_getElem?, Array.getElem?_eq_getElem (by omega)] at hl ⊢
        exact hl, _, ho, fun e he hb => ?_⟩
      · rw [hr] at this; cases this
      · have hlt := hback i _ ho e.on (by simp only [preds, List.mem_map, List.mem_filter]; exact ⟨e, ⟨by simpa using he, hb⟩, rfl⟩)
        exact ih _ hlt (by omega)
    · rfl

theorem opsD_sound (hmix : P.follows .mixedOrders = true) (hG : Knows P Γ) {ops : Array Oper} {m : Nat} {Q : Exit → Act → World → Prop} {il : List IOper} (hok : all2 (okOper P ops nt) ops.toList il = true) (hd : drawOK ops il = true) {K : AS → Prop} {E0 E : Env} {s : AS} {a : Act}
    (h : vcOpsD Γ il K s) (hs : SRel nt E s a) (hx : Ext m E0 E) (hQ : ∀ E' s' a', SRel nt E' s' a' → Ext m E0 E' → K s' → Q .normal a' E'.w) (id : Nat) : (Code.region id ops true).wp P Q a E.w := by
  refine wp_region_any hmix ?_
  obtain ⟨hc, hl⟩ := h
  have hlen : ops.toList.length = il.length := all2_len hok
  have hlen' : ops.size = il.length := by simpa using hlen
  have t : Turned E.w { E.w with drawn := E.w.drawn + 1 } (fun _ => False) := ⟨rfl, rfl, rfl, Nat.le_refl _, fun _ _ _ => rfl, fun _ cs _ _ h => ⟨cs, h, rfl⟩⟩
  obtain ⟨g1, g2⟩ := hs.hp.grow t
  have h0 : ∀ j, (Array.replicate ops.size false).getD j false = false := fun j => by
    rw [Array.getD_eq_getD_getElem?, Array.getElem?_replicate]
    split <;> rfl
  have start : Inv Γ nt m ops il s E0 (Array.replicate ops.size false) a ⟨{ E.w with drawn := E.w.drawn + 1 }, E.s, E.n, E.x⟩ 0 (fun _ => none) :=
    ⟨hs.defers, hs.len, by rw [Foe.less_none fun b ⟨j, h⟩ => by cases h]; exact hx.trans (g2.mono hx.m), by cases il <;> exact g1, Nat.zero_le _, fun j io _ _ _ => (by rw [h0]; simp), fun j _ h => (by omega), fun j _ hl => (by rw [h0] at hl; cases hl), fun j b h => (by cases h), fun j b h => (by cases h), fun j b h => (by cases h), fun j k b h => (by cases h), fun b ⟨j, h⟩ => (by cases h), fun j o _ hl => (by rw [h0] at hl; cases hl), fun j io t _ _ hl => (by rw [h0] at hl; cases hl), fun t _ => (hs.tm t).ext (Nat.le_refl _) g2, by simp⟩
  have finish : ∀ listed a E p q, Inv Γ nt m ops il s E0 listed a E p q → Region.ready .any ops listed = [] → Q .normal a E.w := fun listed a E p q hI hr => by
    have hall := all_listed hd hr hI.lsize
    obtain ⟨hK, hch⟩ := chain_spec il K s hc
    obtain ⟨E1, q1, e1, hI1⟩ := absorb (fun k o h => (hch k o h).2) (il.length - p) hI (by have := hI.ple; omega) fun e ioe he hie _ => hall e (by have := (List.getElem?_eq_some_iff.1 hie).1; omega)
    rw [show p + (il.length - p) = il.length by have := hI.ple; omega] at hI1
    have hx1 : (E1.x.less fun b => ∃ j, q1 j = some b) = E1.x := Foe.less_none fun b ⟨j, h⟩ => by
      obtain ⟨ioj, z, t, vs, e, ⟨k1, _⟩, _⟩ := (hI1.pnd j b h).is
      have := hI1.qle j b h
      have := (List.getElem?_eq_some_iff.1 k1).1
      omega
    rw [← e1]
    refine hQ E1 (tr Γ il il.length s) a ⟨hI1.defers, hI1.len, fun t => ?_, hI1.hp⟩ (by have := hI1.ext; rw [hx1] at this; exact this) hK
    rcases look_tr (Γ := Γ) il s t il.length (Nat.le_refl _) with h | ⟨j, ioj, h1, h2, h3, h4⟩ | ⟨h1, h2⟩
    · rw [h]; exact .any _
    · rw [h4]; exact hI1.own j ioj t h2 h3 (hall j (by omega)) (.inr h1)
    · rw [h2]; exact hI1.old t fun j ioj hj hd' => absurd hd' (h1 j ioj (List.getElem?_eq_some_iff.1 hj).1 hj)
  have go : ∀ fuel listed a E p q, Inv Γ nt m ops il s E0 listed a E p q → left ops.size listed ≤ fuel → wpAny P .any ops Q fuel listed a E.w := by
    intro fuel
    induction fuel with
    | zero =>
      intro listed a E p q hI hf
      have hr : Region.ready .any ops listed = [] := by
        cases hr : Region.ready .any ops listed with
        | nil => rfl
        | cons i l =>
          have hi : i ∈ Region.ready .any ops listed := by rw [hr]; exact List.mem_cons_self
          obtain ⟨hu, o, ho, _⟩ := mem_ready.1 hi
          have hlt := (Array.getElem?_eq_some_iff.1 ho).1
          have hlt' : i < listed.size := by rw [hI.lsize]; exact hlt
          rw [Array.getD_eq_getD_getElem?, Array.getElem?_eq_getElem hlt'] at hu
          have := left_set (n := ops.size) hlt hlt' (by rw [Array.getD_eq_getD_getElem?, Array.getElem?_eq_getElem hlt']; exact hu)
          omega
      exact ⟨hr, finish _ _ _ _ _ hI hr⟩
    | succ fuel ih =>
      intro listed a E p q hI hf
      refine ⟨fun hr => finish _ _ _ _ _ hI hr, fun i hi => ?_⟩
      obtain ⟨hu, o, ho, _⟩ := mem_ready.1 hi
      have hlt := (Array.getElem?_eq_some_iff.1 ho).1
      have hlt' : i < listed.size := by rw [hI.lsize]; exact hlt
      rw [Array.getD_eq_getD_getElem?, Array.getElem?_eq_getElem hlt'] at hu
      have hlf := left_set (n := ops.size) hlt hlt' (by rw [Array.getD_eq_getD_getElem?, Array.getElem?_eq_getElem hlt']; exact hu)
      exact inv_step hG hok hd hc hl hI hi fun a' E' p' q' hI' => ih _ a' E' p' q' hI' (by omega)
  refine go ops.size _ a _ 0 _ start ?_
  unfold left
  exact Nat.le_trans (List.length_filter_le _ _) (by simp)
end
end Go.Proofs.Ytnjpfoblmomnlaa.Sx
