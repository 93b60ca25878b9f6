/- Regions whose order is open: what is shown in the order of the text holds of every order ('opsD_sound'). No conditions: a kit of our own. -/
import Derived.Test.YteidimemlonjbaaSx15
namespace Go.Proofs.Yteidimemlonjbaa.Sx
open Go Go.RowKit
set_option linter.unusedVariables false
set_option linter.unusedSimpArgs false

def preds (o : Oper) : List Nat := (o.after.toList.filter fun e => Region.binds .any e).map (·.on)
def tmpOf : Operand → Option Nat
  | .tmp t => some t
  | _ => none
def guardT (ops : Array Oper) (o : Oper) : Option Nat := match o.guard with
  | some (j, _) => (ops[j]?).bind (·.dst)
  | none => none
def reads (ops : Array Oper) (o : Oper) : List Nat := o.op.operands.toList.filterMap tmpOf ++ (guardT ops o).toList
/-- j is done ahead of the operation. -/
def reachB (ops : Array Oper) : Nat → Oper → Nat → Bool
  | 0, o, j => (preds o).contains j
  | d + 1, o, j => (preds o).contains j || (preds o).any fun k => decide (j < k) && match ops[k]? with
    | some ok => reachB ops d ok j
    | none => false
theorem reach_listed {ops : Array Oper} {listed : Array Bool} (down : ∀ (j : Nat) o, ops[j]? = some o → listed.getD j false = true → ∀ e ∈ preds o, listed.getD e false = true) :
    ∀ (d : Nat) (o : Oper) (j : Nat), reachB ops d o j = true → (∀ e ∈ preds o, listed.getD e false = true) → listed.getD j false = true
  | 0, o, j, h, hp => hp j (by simpa [reachB] using h)
  | d + 1, o, j, h, hp => by
    simp only [reachB, Bool.or_eq_true, List.any_eq_true, Bool.and_eq_true, decide_eq_true_eq] at h
    rcases h with h | ⟨k, hk, _, h⟩
    · exact hp j (by simpa using h)
    · split at h
      · rename_i ok hok
        exact reach_listed down d ok j h (down k ok hok (hp k hk))
      · cases h
def pairOk (ops : Array Oper) (il : List IOper) (i j : Nat) : Bool :=
  match ops[i]?, ops[j]?, il[i]?, il[j]? with
  | some oi, some oj, some ioi, some ioj =>
    (!((reads ops oi).any fun t => oj.dst == some t) || (preds oi).contains j || (decide (i < j) && reachB ops 6 oj i)) && (i == j || oi.dst.isNone || oi.dst != oj.dst) &&
      (!effO ioi || (!ioi.loose && (i == j || heapFree ioj.op || ioj.loose || (if j < i then reachB ops 6 oi j else reachB ops 6 oj i))))
  | _, _, _, _ => false
def looseOk (ops : Array Oper) (il : List IOper) (i : Nat) : Bool := match il[i]? with
  | some io => !io.loose || (match ops[i + cut io.dst.toList (il.drop (i + 1)) + 1]?, il[i + cut io.dst.toList (il.drop (i + 1)) + 1]? with
    | some oj, some ij => effO ij && reachB ops 6 oj i
    | _, _ => true)
  | none => true
/-- What a region in an open order must be for its proof in the order of the text to hold of every order. -/
def drawOK (ops : Array Oper) (il : List IOper) : Bool :=
  ((List.range ops.size).all fun i => match ops[i]? with | some o => (preds o).all (· < i) | none => false) &&
    ((List.range ops.size).all fun i => (List.range ops.size).all fun j => pairOk ops il i j) && (List.range ops.size).all fun i => looseOk ops il i

structure PairOk (ops : Array Oper) (oi oj : Oper) (ioi ioj : IOper) (i j : Nat) : Prop where
  read : ∀ t ∈ reads ops oi, oj.dst = some t → j ∈ preds oi ∨ (i < j ∧ reachB ops 6 oj i = true)
  dst : i ≠ j → ∀ t, oi.dst = some t → oj.dst ≠ some t
  eff : effO ioi = true → ioi.loose = false ∧ (i = j ∨ heapFree ioj.op = true ∨ ioj.loose = true ∨ (j < i ∧ reachB ops 6 oi j = true) ∨ (i < j ∧ reachB ops 6 oj i = true))

theorem drawOK_spec {ops : Array Oper} {il : List IOper} (h : drawOK ops il = true) :
    (∀ (i : Nat) o, ops[i]? = some o → ∀ e ∈ preds o, e < i) ∧
    (∀ (i j : Nat) oi oj ioi ioj, ops[i]? = some oi → ops[j]? = some oj → il[i]? = some ioi → il[j]? = some ioj → PairOk ops oi oj ioi ioj i j) ∧
    ∀ (i : Nat) oi io oj ij, ops[i]? = some oi → il[i]? = some io → io.loose = true → ops[i + cut io.dst.toList (il.drop (i + 1)) + 1]? = some oj → il[i + cut io.dst.toList (il.drop (i + 1)) + 1]? = some ij → effO ij = true ∧ reachB ops 6 oj i = true := by
  simp only [drawOK, Bool.and_eq_true, List.all_eq_true, List.mem_range] at h
  obtain ⟨⟨h1, h2⟩, h3⟩ := h
  refine ⟨fun i o ho e he => ?_, fun i j oi oj ioi ioj hi hj hi' hj' => ?_, fun i oi io oj ij hi hi' hl hj hj' => ?_⟩
  rotate_right
  · have := h3 i (Array.getElem?_eq_some_iff.1 hi).1
    simp only [looseOk, hi', hl, Bool.not_true, Bool.false_or, hj, hj', Bool.and_eq_true] at this
    exact this
  · have := h1 i (Array.getElem?_eq_some_iff.1 ho).1
    simp only [ho, List.all_eq_true, decide_eq_true_eq] at this
    exact this e he
  · have := h2 i (Array.getElem?_eq_some_iff.1 hi).1 j (Array.getElem?_eq_some_iff.1 hj).1
    simp only [pairOk, hi, hj, hi', hj', Bool.and_eq_true, Bool.or_eq_true, Bool.not_eq_true', bne_iff_ne, ne_eq, List.contains_iff_mem, beq_iff_eq, decide_eq_true_eq] at this
    obtain ⟨⟨h3, h4⟩, h5⟩ := this
    refine ⟨fun t ht e => ?_, fun hne t e e' => ?_, fun he => ?_⟩
    · rcases h3 with (h3 | h3) | h3
      · rw [List.any_eq_false] at h3
        exact absurd (by simp [e]) (h3 t ht)
      · exact .inl h3
      · exact .inr h3
    · rcases h4 with (h4 | h4) | h4
      · exact hne h4
      · rw [e] at h4; cases h4
      · exact h4 (by rw [e, e'])
    · rcases h5 with h5 | ⟨h5, h6⟩
      · rw [he] at h5; cases h5
      · refine ⟨h5, ?_⟩
        rcases h6 with ((h6 | h6) | h6) | h6
        · exact .inl h6
        · exact .inr (.inl h6)
        · exact .inr (.inr (.inl h6))
        · by_cases hij : i = j
          · exact .inl hij
          · split at h6
            · rename_i hlt; exact .inr (.inr (.inr (.inl ⟨hlt, h6⟩)))
            · exact .inr (.inr (.inr (.inr ⟨by omega, h6⟩)))

section
variable {P : Program} {Γ : FuncId → Ctr} {nt : Nat}

/-- The run in the order of the text. -/
def tr (Γ : FuncId → Ctr) : List IOper → Nat → AS → AS
  | _, 0, s => s
  | [], _ + 1, s => s
  | o :: l, k + 1, s => tr Γ l k (stp Γ o s)
theorem tr_succ : ∀ (il : List IOper) (k : Nat) (s : AS) (o : IOper), il[k]? = some o → tr Γ il (k + 1) s = stp Γ o (tr Γ il k s)
  | o' :: l, 0, s, o, h => by simp at h; subst h; simp [tr]
  | o' :: l, k + 1, s, o, h => by
    simp only [tr]
    exact tr_succ l k _ o (by simpa using h)
  | [], _, _, _, h => by simp at h
theorem chain_spec : ∀ (il : List IOper) (K : AS → Prop) (s : AS), vcChain Γ il K s → K (tr Γ il il.length s) ∧ ∀ (k : Nat) o, il[k]? = some o → preS0 Γ o (tr Γ il k s) (tr Γ il k s).hp ∧ (effO o = false → hpS Γ o (tr Γ il k s) (tr Γ il k s).hp = (tr Γ il k s).hp)
  | [], K, s, h => ⟨h, fun k o h => by simp at h⟩
  | o :: l, K, s, h => by
    simp only [vcChain] at h
    obtain ⟨h1, h2, h3⟩ := h
    obtain ⟨h4, h5⟩ := chain_spec l K _ h3
    refine ⟨h4, fun k o' hk => ?_⟩
    cases k with
    | zero => simp at hk; subst hk; exact ⟨preS_old Γ h1, h2⟩
    | succ k => exact h5 k o' (by simpa using hk)
theorem heapsOf_mem : ∀ (il : List IOper) (k n : Nat) (s : AS), k < n → k ≤ il.length → (tr Γ il k s).hp ∈ (heapsOf Γ il s).take n
  | [], 0, n + 1, s, _, _ => by simp [tr, heapsOf]
  | o :: l, 0, n + 1, s, _, _ => by simp [tr, heapsOf]
  | o :: l, k + 1, n + 1, s, h, h' => by
    simp only [tr, heapsOf, List.take_succ_cons]
    exact List.mem_cons_of_mem _ (heapsOf_mem l k n _ (by omega) (by simpa using h'))
theorem loose_spec {hs : List (List AObj)} : ∀ (il : List IOper) (q : Nat) (s : AS), vcLoose Γ hs q il s → ∀ (k : Nat) o, il[k]? = some o → o.loose = true → ∀ h ∈ hs.take (q + k + cut o.dst.toList (il.drop (k + 1)) + 2), preS0 Γ o (tr Γ il k s) h ∧ valS Γ o (tr Γ il k s) h = valS Γ o (tr Γ il k s) (tr Γ il k s).hp ∧ hpS Γ o (tr Γ il k s) h = h
  | [], q, s, _, k, o, h => by simp at h
  | o :: l, q, s, hv, k, o', hk => by
    simp only [vcLoose] at hv
    cases k with
    | zero => simp at hk; subst hk; exact fun hl h hh => ⟨preS_old Γ (hv.1 hl h (by simpa using hh)).1, (hv.1 hl h (by simpa using hh)).2⟩
    | succ k => exact fun hl h hh => loose_spec l (q + 1) _ hv.2 k o' (by simpa using hk) hl h (by simpa [Nat.add_assoc, Nat.add_comm, Nat.add_left_comm] using hh)
theorem look_tr (il : List IOper) (s : AS) (t : Nat) : ∀ k, k ≤ il.length → look1 (tr Γ il k s).tm t = .any ∨ (∃ j io, j < k ∧ il[j]? = some io ∧ io.dst = some t ∧ look1 (tr Γ il k s).tm t = valS Γ io (tr Γ il j s) (tr Γ il j s).hp) ∨
    ((∀ j io, j < k → il[j]? = some io → io.dst ≠ some t) ∧ look1 (tr Γ il k s).tm t = look1 s.tm t) := by
  intro k
  induction k with
  | zero => intro _; exact .inr (.inr ⟨fun j io h => by omega, by cases il <;> simp [tr]⟩)
  | succ k ih =>
    intro hk
    have hk' : il[k]? = some il[k] := List.getElem?_eq_getElem (by omega)
    rw [tr_succ il k s _ hk']
    simp only [stp, upd, look1_wipe, look1_put1]
    split
    · exact .inl rfl
    · split
      · rename_i hd
        exact .inr (.inl ⟨k, _, by omega, hk', hd, rfl⟩)
      · rename_i hd
        rcases ih (by omega) with h | ⟨j, io, h1, h2, h3, h4⟩ | ⟨h1, h2⟩
        · exact .inl h
        · exact .inr (.inl ⟨j, io, by omega, h2, h3, h4⟩)
        · refine .inr (.inr ⟨fun j io hj hio => ?_, h2⟩)
          by_cases hjk : j = k
          · subst hjk; rw [hk'] at hio; cases hio; exact hd
          · exact h1 j io (by omega) hio

theorem heapFree_same {io : IOp} (h : heapFree io = true) (r : Opd → AV) (H H' : List AObj) : dpre Γ io r H = dpre Γ io r H' ∧ dval Γ io r H = dval Γ io r H' ∧ dhp Γ io r H = H := by
  cases io <;> first | (cases h; done) | exact ⟨rfl, rfl, rfl⟩
theorem heapFree_S {o : IOper} (h : heapFree o.op = true) {s : AS} {H H' : List AObj} (hp : preS0 Γ o s H) : preS0 Γ o s H' ∧ valS Γ o s H' = valS Γ o s H ∧ hpS Γ o s H' = H' := by
  have e := heapFree_same (Γ := Γ) h
  cases hg : o.guard with
  | none =>
    simp only [preS0, valS, hpS, hg] at *
    exact ⟨by rw [(e _ H' H).1]; exact hp, (e _ H' H).2.1, (e _ H' H).2.2⟩
  | some q =>
    obtain ⟨t, w⟩ := q
    simp only [preS0, valS, hpS, hg] at *
    refine ⟨⟨hp.1, fun hb => ?_⟩, ?_, trivial⟩
    · obtain ⟨h1, h2, h3⟩ := hp.2 hb
      exact ⟨by rw [(e _ H' H).1]; exact h1, by rw [(e _ H' H).2.1, (e _ H' H).2.1]; exact h2, (e _ H' H).2.2⟩
    · rw [(e _ H' H).2.1]

/-- Of the frame and the world, when some are done. -/
structure Inv (Γ : FuncId → Ctr) (nt m : Nat) (ops : Array Oper) (il : List IOper) (s0 : AS) (E0 : Env) (listed : Array Bool) (a : Act) (E : Env) (p : Nat) : Prop where
  defers : a.defers = []
  len : a.tmps.size = nt
  ext : Ext m E0 E
  hp : HRel E (tr Γ il p s0).hp
  ple : p ≤ il.length
  effs : ∀ (j : Nat) io, il[j]? = some io → effO io = true → (listed.getD j false = true ↔ j < p)
  down : ∀ (j : Nat) o, ops[j]? = some o → listed.getD j false = true → ∀ e ∈ preds o, listed.getD e false = true
  own : ∀ (j : Nat) io t, il[j]? = some io → io.dst = some t → listed.getD j false = true → VRel E (valS Γ io (tr Γ il j s0) (tr Γ il j s0).hp) (a.tmps.getD t undef)
  old : ∀ t, (∀ (j : Nat) io, il[j]? = some io → io.dst = some t → listed.getD j false = false) → VRel E (look1 s0.tm t) (a.tmps.getD t undef)
  lsize : listed.size = ops.size

theorem hp_same {il : List IOper} {s : AS} (hne : ∀ (k : Nat) o, il[k]? = some o → effO o = false → hpS Γ o (tr Γ il k s) (tr Γ il k s).hp = (tr Γ il k s).hp) :
    ∀ (d p : Nat), p + d ≤ il.length → (∀ (e : Nat) io, il[e]? = some io → effO io = true → ¬ (p ≤ e ∧ e < p + d)) → (tr Γ il (p + d) s).hp = (tr Γ il p s).hp
  | 0, p, _, _ => rfl
  | d + 1, p, h1, h2 => by
    have ih := hp_same hne d p (by omega) (fun e io he hf h => h2 e io he hf ⟨h.1, by omega⟩)
    have hk : il[p + d]? = some (il[p + d]'(by omega)) := List.getElem?_eq_getElem (by omega)
    rw [show p + (d + 1) = p + d + 1 from rfl, tr_succ il (p + d) s _ hk]
    simp only [stp]
    rw [hne (p + d) _ hk, ih]
    cases hb : effO (il[p + d]'(by omega))
    · rfl
    · exact absurd ⟨by omega, by omega⟩ (h2 (p + d) _ hk hb)
theorem hp_same' {il : List IOper} {s : AS} (hne : ∀ (k : Nat) o, il[k]? = some o → effO o = false → hpS Γ o (tr Γ il k s) (tr Γ il k s).hp = (tr Γ il k s).hp) {p q : Nat} (hp : p ≤ il.length) (hq : q ≤ il.length)
    (h : ∀ (e : Nat) io, il[e]? = some io → effO io = true → (e < p ↔ e < q)) : (tr Γ il p s).hp = (tr Γ il q s).hp := by
  by_cases hpq : p ≤ q
  · have := hp_same (s := s) hne (q - p) p (by omega) (fun e io he hf hh => by have := h e io he hf; omega)
    rw [show p + (q - p) = q by omega] at this
    exact this.symm
  · have := hp_same (s := s) hne (p - q) q (by omega) (fun e io he hf hh => by have := h e io he hf; omega)
    rw [show q + (p - q) = p by omega] at this
    exact this

theorem getD_set_iff {listed : Array Bool} {i j : Nat} (hi : i < listed.size) : (listed.setIfInBounds i true).getD j false = true ↔ listed.getD j false = true ∨ j = i := by
  by_cases h : i = j
  · subst h
    simp [Array.getD_eq_getD_getElem?, Array.getElem?_setIfInBounds_self_of_lt hi]
  · rw [getD_set_ne false h]
    constructor
    · exact .inl
    · rintro (h1 | h1)
      · exact h1
      · exact absurd h1.symm h

theorem inv_step (hG : Knows P Γ) {ops : Array Oper} {il : List IOper} {m : Nat} {s0 : AS} {E0 : Env} (hok : all2 (okOper P ops nt) ops.toList il = true) (hd : drawOK ops il = true)
    {K : AS → Prop} (hc : vcChain Γ il K s0) (hl : il.any (·.loose) = true → vcLoose Γ (heapsOf Γ il s0) 0 il s0) {listed : Array Bool} {a : Act} {E : Env} {p : Nat} (hI : Inv Γ nt m ops il s0 E0 listed a E p)
    {i : Nat} (hi : i ∈ Region.ready .any ops listed) {Q : Exit → Act → World → Prop} {next : Act → World → Prop}
    (hn : ∀ a' E' p', Inv Γ nt m ops il s0 E0 (listed.setIfInBounds i true) a' E' p' → next a' E'.w) : wpOp P ops Q i next a E.w := by
  obtain ⟨hback, hpair, hloose⟩ := drawOK_spec hd
  obtain ⟨hK, hch⟩ := chain_spec il K s0 hc
  obtain ⟨hun, o, ho, hpr⟩ := mem_ready.1 hi
  have hlen : ops.toList.length = il.length := all2_len hok
  have hilt : i < ops.size := (Array.getElem?_eq_some_iff.1 ho).1
  have hisz : i < listed.size := by rw [hI.lsize]; exact hilt
  have hiil : i < il.length := by simpa [← hlen] using hilt
  obtain ⟨io, hio⟩ : ∃ io, il[i]? = some io := ⟨_, List.getElem?_eq_getElem hiil⟩
  have hun' : listed.getD i false = false := by
    rw [Array.getD_eq_getD_getElem?, Array.getElem?_eq_getElem hisz] at hun ⊢
    exact hun
  have hoper : ∀ (j : Nat) oj ioj, ops[j]? = some oj → il[j]? = some ioj → okOper P ops nt oj ioj = true := fun j oj ioj h1 h2 => all2_at hok j oj ioj (by simpa using h1) h2
  have hoj : ∀ (j : Nat) ioj, il[j]? = some ioj → ∃ oj, ops[j]? = some oj ∧ okOper P ops nt oj ioj = true := fun j ioj h => by
    have hj : j < ops.size := by have := (List.getElem?_eq_some_iff.1 h).1; rw [← hlen] at this; simpa using this
    exact ⟨_, Array.getElem?_eq_getElem hj, hoper j _ _ (Array.getElem?_eq_getElem hj) h⟩
  have hpreds : ∀ e ∈ preds o, listed.getD e false = true := fun e he => by
    simp only [preds, List.mem_map, List.mem_filter] at he
    obtain ⟨x, ⟨h1, h2⟩, rfl⟩ := he
    exact hpr x (by simpa using h1) h2
  obtain ⟨hdst, hlt, hop⟩ := okOper_dst (hoper i o io ho hio)
  -- the state in the order of the text
  have hslot : ∀ t ∈ reads ops o, VRel E (look1 (tr Γ il i s0).tm t) (a.tmps.getD t undef) := fun t ht => by
    rcases look_tr (Γ := Γ) il s0 t i (by omega) with h | ⟨j, ioj, h1, h2, h3, h4⟩ | ⟨h1, h2⟩
    · rw [h]; exact .any _
    · rw [h4]
      obtain ⟨oj, hoj1, hoj2⟩ := hoj j ioj h2
      rcases (hpair i j o oj io ioj ho hoj1 hio h2).read t ht (by rw [(okOper_dst hoj2).1]; exact h3) with hm | hm
      · exact hI.own j ioj t h2 h3 (hpreds j hm)
      · omega
    · rw [h2]
      refine hI.old t fun j ioj h3 h4 => ?_
      obtain ⟨oj, hoj1, hoj2⟩ := hoj j ioj h3
      rcases (hpair i j o oj io ioj ho hoj1 hio h3).read t ht (by rw [(okOper_dst hoj2).1]; exact h4) with hm | ⟨hm, hm'⟩
      · exact absurd h4 (h1 j ioj (hback i o ho j hm) h3)
      · cases hb : listed.getD j false
        · rfl
        · have := reach_listed hI.down 6 oj i hm' (hI.down j oj hoj1 hb)
          rw [hun'] at this; cases this
  have hrel : OpsRel E (tr Γ il i s0).ev a o := ⟨fun x y hx hy => by
    unfold opdOk at hy
    split at hy
    · rename_i t n
      simp at hy; subst hy
      exact hslot t (by simp only [reads, List.mem_append, List.mem_filterMap]; exact .inl ⟨_, by simpa using hx, rfl⟩)
    · rename_i t n
      simp at hy; subst hy
      exact (hslot t (by simp only [reads, List.mem_append, List.mem_filterMap]; exact .inl ⟨_, by simpa using hx, rfl⟩)).res
    · exact .const hy
    · simp at hy; subst hy
      exact .fn (vs := []) (ws := []) rfl rfl (fun i a v h => by simp at h) (fun i a v h => by simp at h)
    · cases hy⟩
  -- at the heap that there is
  have hheap : preS0 Γ io (tr Γ il i s0) (tr Γ il p s0).hp ∧ valS Γ io (tr Γ il i s0) (tr Γ il p s0).hp = valS Γ io (tr Γ il i s0) (tr Γ il i s0).hp ∧
      (effO io = false → hpS Γ io (tr Γ il i s0) (tr Γ il p s0).hp = (tr Γ il p s0).hp) ∧ (effO io = true → (tr Γ il p s0).hp = (tr Γ il i s0).hp) := by
    have hown := hch i io hio
    by_cases hhf : heapFree io.op = true
    · obtain ⟨h1, h2, h3⟩ := heapFree_S hhf (H' := (tr Γ il p s0).hp) hown.1
      exact ⟨h1, h2, fun _ => h3, fun he => by cases hq : io.op <;> simp [hq, heapFree, effO, isCallO, eff] at hhf he⟩
    · by_cases hlo : io.loose = true
      · have hany : il.any (·.loose) = true := List.any_eq_true.2 ⟨io, List.mem_of_getElem? hio, hlo⟩
        have hple : p < 0 + i + cut io.dst.toList (il.drop (i + 1)) + 2 := by
          by_cases hj : i + cut io.dst.toList (il.drop (i + 1)) + 1 < il.length
          · obtain ⟨oj, hoj1, hoj2⟩ := hoj _ _ (List.getElem?_eq_getElem hj)
            obtain ⟨he, hr⟩ := hloose i o io oj _ ho hio hlo hoj1 (List.getElem?_eq_getElem hj)
            have hiff := hI.effs _ _ (List.getElem?_eq_getElem hj) he
            by_cases hp : i + cut io.dst.toList (il.drop (i + 1)) + 1 < p
            · have := reach_listed hI.down 6 oj i hr (hI.down _ oj hoj1 (hiff.2 hp))
              rw [hun'] at this; cases this
            · omega
          · have := hI.ple; omega
        obtain ⟨h1, h2, h3⟩ := loose_spec il 0 s0 (hl hany) i io hio hlo _ (heapsOf_mem il p _ s0 hple hI.ple)
        exact ⟨h1, h2, fun _ => h3, fun he => by have := ((hpair i i o o io io ho ho hio hio).eff he).1; rw [hlo] at this; cases this⟩
      · have e : (tr Γ il p s0).hp = (tr Γ il i s0).hp := hp_same' (fun k o' h => (hch k o' h).2) hI.ple (by omega) fun e ioe he hef => by
          obtain ⟨oe, hoe1, hoe2⟩ := hoj e ioe he
          rw [← hI.effs e ioe he hef]
          have hh := ((hpair e i oe o ioe io hoe1 ho he hio).eff hef).2
          rcases hh with h | h | h | ⟨h, h'⟩ | ⟨h, h'⟩
          · subst h; rw [hun']; constructor <;> intro h <;> first | (cases h; done) | omega
          · exact absurd h hhf
          · exact absurd h hlo
          · constructor
            · intro hh; have := reach_listed hI.down 6 oe i h' (hI.down e oe hoe1 hh); rw [hun'] at this; cases this
            · intro hh; omega
          · exact ⟨fun _ => h, fun _ => reach_listed hI.down 6 o e h' hpreds⟩
        rw [e]
        exact ⟨hown.1, rfl, hown.2, fun _ => rfl⟩
  obtain ⟨hh1, hh2, hh3, hh4⟩ := hheap
  -- what follows
  have follow : ∀ v E' H', VRel E' (valS Γ io (tr Γ il i s0) (tr Γ il i s0).hp) v → HRel E' H' → H' = hpS Γ io (tr Γ il i s0) (tr Γ il p s0).hp → Ext E.n E E' → next (a.put o.dst v) E'.w := fun v E' H' hv hH hH' hx => by
    have hput : ∀ t, (a.put o.dst v).tmps.getD t undef = if o.dst = some t then v else a.tmps.getD t undef := fun t => getD_put (by rw [hI.len, hdst]; exact hlt) t
    have hx' : Ext m E0 E' := hI.ext.trans (hx.mono hI.ext.m)
    have main : ∀ p', p' ≤ il.length → HRel E' (tr Γ il p' s0).hp → (∀ (j : Nat) ioj, il[j]? = some ioj → effO ioj = true → ((listed.setIfInBounds i true).getD j false = true ↔ j < p')) → Inv Γ nt m ops il s0 E0 (listed.setIfInBounds i true) (a.put o.dst v) E' p' := fun p' h1 h2 h3 => by
      refine ⟨by cases o.dst <;> exact hI.defers, by cases o.dst <;> simp [Act.put, hI.len], hx', h2, h1, h3, fun j oj hj hlj e he => ?_, fun j ioj t hj ht hlj => ?_, fun t ht => ?_, by simp [hI.lsize]⟩
      · rw [getD_set_iff hisz] at hlj ⊢
        rcases hlj with hlj | hlj
        · exact .inl (hI.down j oj hj hlj e he)
        · subst hlj
          rw [ho] at hj; cases hj
          exact .inl (hpreds e he)
      · rw [hput]
        rw [getD_set_iff hisz] at hlj
        by_cases hij : j = i
        · subst hij
          rw [hio] at hj; cases hj
          rw [if_pos (by rw [hdst]; exact ht)]
          exact hv
        · obtain ⟨oj, hoj1, hoj2⟩ := hoj j ioj hj
          have hne : o.dst ≠ some t := (hpair j i oj o ioj io hoj1 ho hj hio).dst hij t (by rw [(okOper_dst hoj2).1]; exact ht)
          rw [if_neg hne]
          rcases hlj with hlj | hlj
          · exact (hI.own j ioj t hj ht hlj).ext (Nat.le_refl _) hx
          · exact absurd hlj hij
      · have hnew : (listed.setIfInBounds i true).getD i false = true := (getD_set_iff hisz).2 (.inr rfl)
        rw [hput, if_neg (by rw [hdst]; intro e; have := ht i io hio e; rw [hnew] at this; cases this)]
        refine (hI.old t fun j ioj h1 h2 => ?_).ext (Nat.le_refl _) hx
        have := ht j ioj h1 h2
        cases hb : listed.getD j false
        · rfl
        · rw [(getD_set_iff hisz).2 (.inl hb)] at this; cases this
    cases he : effO io
    · refine hn _ E' p (main p hI.ple (by rw [← hh3 he, ← hH']; exact hH) fun j ioj hj hje => ?_)
      rw [getD_set_iff hisz, hI.effs j ioj hj hje]
      constructor
      · rintro (h | h)
        · exact h
        · subst h; rw [hio] at hj; cases hj; rw [he] at hje; cases hje
      · exact .inl
    · have e1 := hh4 he
      refine hn _ E' (i + 1) (main (i + 1) (by omega) (by rw [tr_succ il i s0 io hio]; simp only [stp]; rw [← e1, ← hH']; exact hH) fun j ioj hj hje => ?_)
      rw [getD_set_iff hisz, hI.effs j ioj hj hje]
      obtain ⟨oj, hoj1, hoj2⟩ := hoj j ioj hj
      have hij := ((hpair i j o oj io ioj ho hoj1 hio hj).eff he).2
      have hnf : heapFree ioj.op = false := by cases hq : ioj.op <;> simp [hq, heapFree, effO, isCallO, eff] at hje ⊢
      have hnl := ((hpair j j oj oj ioj ioj hoj1 hoj1 hj hj).eff hje).1
      have hiff := hI.effs j ioj hj hje
      rcases hij with h | h | h | ⟨h, h'⟩ | ⟨h, h'⟩
      · subst h; simp
      · rw [hnf] at h; cases h
      · rw [hnl] at h; cases h
      · have := hiff.1 (reach_listed hI.down 6 o j h' hpreds); omega
      · have : ¬ j < p := fun hp => by have := reach_listed hI.down 6 oj i h' (hI.down j oj hoj1 (hiff.2 hp)); rw [hun'] at this; cases this
        omega
  unfold wpOp
  simp only [ho]
  have hg := hoper i o io ho hio
  simp only [okOper, Bool.and_eq_true] at hg
  have hg := hg.2
  split at hg
  · rename_i hg1 hg2
    rw [if_pos (by simp [Region.wanted, hg1])]
    simp only [preS0, hg2] at hh1
    have hv : valS Γ io (tr Γ il i s0) (tr Γ il p s0).hp = dval Γ io.op (tr Γ il i s0).ev (tr Γ il p s0).hp := by simp only [valS, hg2]
    have hq : hpS Γ io (tr Γ il i s0) (tr Γ il p s0).hp = dhp Γ io.op (tr Γ il i s0).ev (tr Γ il p s0).hp := by simp only [hpS, hg2]
    refine .inl (dfun_sound hG hop hh1 E a _ Q hrel hI.hp fun v E' x H' h1 h2 h3 ⟨e1, e2⟩ => follow v E' H' ?_ h2 (by rw [e2, hq]) h3)
    rw [← hh2, hv, ← e1]; exact h1
  · rename_i j w t w' hg1 hg2
    simp only [Bool.and_eq_true, beq_iff_eq] at hg
    obtain ⟨rfl, hj⟩ := hg
    simp only [preS0, hg2] at hh1
    have hw := wanted_gb (a := a) (E := E) hg1 hj (hslot t (by simp only [reads, List.mem_append]; exact .inr (by simp [guardT, hg1, hj]))) hh1.1
    have hv : valS Γ io (tr Γ il i s0) (tr Γ il p s0).hp = .opt (gb (look1 (tr Γ il i s0).tm t) w) (dval Γ io.op (tr Γ il i s0).evs (tr Γ il p s0).hp) := by simp only [valS, hg2]
    have hq : hpS Γ io (tr Γ il i s0) (tr Γ il p s0).hp = (tr Γ il p s0).hp := by simp only [hpS, hg2]
    cases hb : gb (look1 (tr Γ il i s0).tm t) w
    · rw [if_neg (by rw [hw, hb]; simp)]
      refine follow undef E _ ?_ hI.hp hq.symm (Ext.refl (Nat.le_refl _))
      rw [← hh2, hv, hb]
      exact .opt (fun h => by cases h) (fun _ => rfl)
    · rw [if_pos (by rw [hw, hb])]
      obtain ⟨h5, h6, h7⟩ := hh1.2 hb
      refine .inl (dfun_sound hG hop h5 E a _ Q hrel hI.hp fun v E' x H' h1 h2 h3 ⟨e1, e2⟩ => follow v E' H' ?_ h2 (by rw [e2, hq, h7]) h3)
      rw [← hh2, hv, hb]
      exact .opt (fun _ => by rw [← h6, ← e1]; exact h1) (fun h => by cases h)
  · cases hg

/-- How many aren't done. -/
def left (n : Nat) (listed : Array Bool) : Nat := ((List.range n).filter fun i => !listed.getD i false).length
theorem left_set {n : Nat} {listed : Array Bool} {i : Nat} (hi : i < n) (hs : i < listed.size) (hu : listed.getD i false = false) : left n (listed.setIfInBounds i true) < left n listed := by
  unfold left
  have key : ∀ l : List Nat, (l.filter fun j => !(listed.setIfInBounds i true).getD j false).length ≤ (l.filter fun j => !listed.getD j false).length ∧ (i ∈ l → (l.filter fun j => !(listed.setIfInBounds i true).getD j false).length < (l.filter fun j => !listed.getD j false).length) := by
    intro l
    induction l with
    | nil => simp
    | cons x l ih =>
      have hx : (listed.setIfInBounds i true).getD x false = true ↔ listed.getD x false = true ∨ x = i := getD_set_iff hs
      by_cases hxi : x = i
      · subst hxi
        have h1 : (listed.setIfInBounds x true).getD x false = true := hx.2 (.inr rfl)
        simp only [List.filter_cons, h1, hu, Bool.not_true, Bool.not_false, if_true, Bool.false_eq_true, if_false, List.length_cons]
        exact ⟨by omega, fun _ => by omega⟩
      · have h1 : (listed.setIfInBounds i true).getD x false = listed.getD x false := getD_set_ne false (fun e => hxi e.symm)
        simp only [List.filter_cons, h1]
        cases listed.getD x false
        · simp only [Bool.not_false, if_true, List.length_cons]
          exact ⟨by omega, fun h => by
            rcases List.mem_cons.1 h with h | h
            · exact absurd h.symm hxi
            · have := ih.2 h; omega⟩
        · simp only [Bool.not_true, Bool.false_eq_true, if_false]
          exact ⟨ih.1, fun h => by
            rcases List.mem_cons.1 h with h | h
            · exact absurd h.symm hxi
            · exact ih.2 h⟩
  exact (key _).2 (List.mem_range.2 hi)

theorem all_listed {ops : Array Oper} {il : List IOper} (hd : drawOK ops il = true) {listed : Array Bool} (hr : Region.ready .any ops listed = []) (hs : listed.size = ops.size) : ∀ i, i < ops.size → listed.getD i false = true := by
  obtain ⟨hback, _⟩ := drawOK_spec hd
  intro i
  induction i using Nat.strongRecOn with
  | _ i ih =>
    intro hi
    cases hl : listed.getD i false
    · have ho : ops[i]? = some ops[i] := Array.getElem?_eq_getElem hi
      have : i ∈ Region.ready .any ops listed := mem_ready.2 ⟨by
        rw [Array.getD_eq_getD_getElem?, Array.getElem?_eq_getElem (by omega)] at hl ⊢
        exact hl, _, ho, fun e he hb => ?_⟩
      · rw [hr] at this; cases this
      · have hlt := hback i _ ho e.on (by simp only [preds, List.mem_map, List.mem_filter]; exact ⟨e, ⟨by simpa using he, hb⟩, rfl⟩)
        exact ih _ hlt (by omega)
    · rfl

theorem opsD_sound (hmix : P.follows .mixedOrders = true) (hG : Knows P Γ) {ops : Array Oper} {m : Nat} {Q : Exit → Act → World → Prop} {il : List IOper} (hok : all2 (okOper P ops nt) ops.toList il = true) (hd : drawOK ops il = true) {K : AS → Prop} {E0 E : Env} {s : AS} {a : Act}
    (h : vcOpsD Γ il K s) (hs : SRel nt E s a) (hx : Ext m E0 E) (hQ : ∀ E' s' a', SRel nt E' s' a' → Ext m E0 E' → K s' → Q .normal a' E'.w) (id : Nat) : (Code.region id ops true).wp P Q a E.w := by
  refine wp_region_any hmix ?_
  obtain ⟨hc, hl⟩ := h
  have hlen : ops.toList.length = il.length := all2_len hok
  have hlen' : ops.size = il.length := by simpa using hlen
  have t : Turned E.w { E.w with drawn := E.w.drawn + 1 } (fun _ => False) := ⟨rfl, rfl, rfl, Nat.le_refl _, fun _ _ _ => rfl, fun _ cs _ _ h => ⟨cs, h, rfl⟩⟩
  obtain ⟨g1, g2⟩ := hs.hp.grow t
  have h0 : ∀ j, (Array.replicate ops.size false).getD j false = false := fun j => by
    rw [Array.getD_eq_getD_getElem?, Array.getElem?_replicate]
    split <;> rfl
  have start : Inv Γ nt m ops il s E0 (Array.replicate ops.size false) a ⟨{ E.w with drawn := E.w.drawn + 1 }, E.s, E.n, E.x⟩ 0 :=
    ⟨hs.defers, hs.len, hx.trans (g2.mono hx.m), by cases il <;> exact g1, Nat.zero_le _, fun j io _ _ => (by rw [h0]; simp), fun j o _ hl => (by rw [h0] at hl; cases hl), fun j io t _ _ hl => (by rw [h0] at hl; cases hl), fun t _ => (hs.tm t).ext (Nat.le_refl _) g2, by simp⟩
  have finish : ∀ listed a E p, Inv Γ nt m ops il s E0 listed a E p → Region.ready .any ops listed = [] → Q .normal a E.w := fun listed a E p hI hr => by
    have hall := all_listed hd hr hI.lsize
    obtain ⟨hK, hch⟩ := chain_spec il K s hc
    refine hQ E (tr Γ il il.length s) a ⟨hI.defers, hI.len, fun t => ?_, ?_⟩ hI.ext hK
    · rcases look_tr (Γ := Γ) il s t il.length (Nat.le_refl _) with h | ⟨j, ioj, h1, h2, h3, h4⟩ | ⟨h1, h2⟩
      · rw [h]; exact .any _
      · rw [h4]; exact hI.own j ioj t h2 h3 (hall j (by omega))
      · rw [h2]; exact hI.old t fun j ioj hj hd' => absurd hd' (h1 j ioj (List.getElem?_eq_some_iff.1 hj).1 hj)
    · rw [← hp_same' (fun k o' h => (hch k o' h).2) hI.ple (Nat.le_refl _) fun e ioe he hef => ?_]
      · exact hI.hp
      · have hlt := (List.getElem?_eq_some_iff.1 he).1
        rw [← hI.effs e ioe he hef]
        exact ⟨fun _ => hlt, fun _ => hall e (by omega)⟩
  have go : ∀ fuel listed a E p, Inv Γ nt m ops il s E0 listed a E p → left ops.size listed ≤ fuel → wpAny P .any ops Q fuel listed a E.w := by
    intro fuel
    induction fuel with
    | zero =>
      intro listed a E p hI hf
      have hr : Region.ready .any ops listed = [] := by
        cases hr : Region.ready .any ops listed with
        | nil => rfl
        | cons i l =>
          have hi : i ∈ Region.ready .any ops listed := by rw [hr]; exact List.mem_cons_self
          obtain ⟨hu, o, ho, _⟩ := mem_ready.1 hi
          have hlt := (Array.getElem?_eq_some_iff.1 ho).1
          have hlt' : i < listed.size := by rw [hI.lsize]; exact hlt
          rw [Array.getD_eq_getD_getElem?, Array.getElem?_eq_getElem hlt'] at hu
          have := left_set (n := ops.size) hlt hlt' (by rw [Array.getD_eq_getD_getElem?, Array.getElem?_eq_getElem hlt']; exact hu)
          omega
      exact ⟨hr, finish _ _ _ _ hI hr⟩
    | succ fuel ih =>
      intro listed a E p hI hf
      refine ⟨fun hr => finish _ _ _ _ hI hr, fun i hi => ?_⟩
      obtain ⟨hu, o, ho, _⟩ := mem_ready.1 hi
      have hlt := (Array.getElem?_eq_some_iff.1 ho).1
      have hlt' : i < listed.size := by rw [hI.lsize]; exact hlt
      rw [Array.getD_eq_getD_getElem?, Array.getElem?_eq_getElem hlt'] at hu
      have hlf := left_set (n := ops.size) hlt hlt' (by rw [Array.getD_eq_getD_getElem?, Array.getElem?_eq_getElem hlt']; exact hu)
      exact inv_step hG hok hd hc hl hI hi fun a' E' p' hI' => ih _ a' E' p' hI' (by omega)
  refine go ops.size _ a _ 0 start ?_
  unfold left
  exact Nat.le_trans (List.length_filter_le _ _) (by simp)
end
end Go.Proofs.Yteidimemlonjbaa.Sx
