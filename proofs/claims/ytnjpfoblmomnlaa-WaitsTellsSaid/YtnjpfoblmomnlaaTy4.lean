/- Loops that go through a list from its front; what 'simp' says of names. No conditions: a kit of our own. -/
import Derived.Test.YtnjpfoblmomnlaaTy3
import Derived.Test.YtnjpfoblmomnlaaProg
namespace Go.Proofs.Ytnjpfoblmomnlaa.Sx
open Go Go.RowKit
set_option linter.unusedVariables false
set_option linter.unusedSimpArgs false

/-- Of all cells, and of all cells of rows. -/
def allC (p : AV → Prop) (r : List AV) : Prop := ∀ a ∈ r, p a
def allR (p : AV → Prop) (rs : List (List AV)) : Prop := ∀ r ∈ rs, ∀ a ∈ r, p a
@[simp] theorem allC_nil (p : AV → Prop) : allC p [] = True := by simp [allC]
@[simp] theorem allC_cons (p : AV → Prop) (a : AV) (r : List AV) : allC p (a :: r) = (p a ∧ allC p r) := by simp [allC]
@[simp] theorem allC_app (p : AV → Prop) (r t : List AV) : allC p (r ++ t) = (allC p r ∧ allC p t) := by simp [allC, or_imp, forall_and]
@[simp] theorem allR_nil (p : AV → Prop) : allR p [] = True := by simp [allR]
@[simp] theorem allR_cons (p : AV → Prop) (a : List AV) (r : List (List AV)) : allR p (a :: r) = (allC p a ∧ allR p r) := by simp [allR, allC]
@[simp] theorem allR_app (p : AV → Prop) (r t : List (List AV)) : allR p (r ++ t) = (allR p r ∧ allR p t) := by simp [allR, or_imp, forall_and]
theorem allC_c {α : Type} [Cel α] {p : AV → Prop} (h : ∀ (x : α) a, a ∈ Cel.c x → p a) (x : α) : allC p (Cel.c x) = True := by simp only [eq_iff_iff, iff_true]; exact fun a ha => h x a ha
theorem allR_c {α : Type} [Cel α] {p : AV → Prop} (h : ∀ (x : α) a, a ∈ Cel.c x → p a) (xs : List α) : allR p (xs.map Cel.c) = True := by
  simp only [eq_iff_iff, iff_true]
  intro r hr a ha
  obtain ⟨x, _, rfl⟩ := List.mem_map.1 hr
  exact h x a ha

/-! ### names -/
section
variable {k : Nat}
@[simp] theorem low_int (kd : IntKind) (n : Int) : Low k (.int kd n) := .int _ _
@[simp] theorem low_bool (b : Bool) : Low k (.bool b) := .bool _
@[simp] theorem low_any : Low k .any := .any _
@[simp] theorem low_nils : Low k .nils := .nils
@[simp] theorem low_nilp : Low k .nilp := .nilp
@[simp] theorem low_nilm : Low k .nilm := .nilm
@[simp] theorem low_val (v : Value) : Low k (.val v) := .val v
@[simp] theorem low_str (s : ByteArray) : Low k (.str s) := .str s
@[simp] theorem low_ptr_iff (i r o : Nat) : Low k (.ptr i r o) ↔ i < k := ⟨fun h => by cases h with | ptr h => exact h.2, fun h => .ptr ⟨rfl, h⟩⟩
@[simp] theorem low_sl_iff (i r l : Nat) : Low k (.sl i r l) ↔ i < k := ⟨fun h => by cases h with | sl h => exact h.2, fun h => .sl ⟨rfl, h⟩⟩
@[simp] theorem low_map_iff (i : Nat) : Low k (.map i) ↔ i < k := ⟨fun h => by cases h with | map h => exact h.2, fun h => .map ⟨rfl, h⟩⟩
@[simp] theorem low_viewc {α : Type} [Cel α] (xs : List α) : Low k (.view (xs.map Cel.c)) := (closed_viewc xs).seen _ _
@[simp] theorem low_view_nil : Low k (.view []) := (closed_vI []).seen _ _
theorem low_cell {α : Type} [Cel α] (x : α) {a : AV} (h : a ∈ Cel.c x) : Low k a := (Cel.closed x a h).seen _ _
@[simp] theorem low_agg_iff (cs : List AV) : Low k (.agg cs) ↔ ∀ a ∈ cs, Low k a := ⟨fun h a ha => by
  cases h with
  | agg hl h =>
    obtain ⟨i, hi⟩ := List.getElem?_of_mem ha
    exact h i a a hi hi, fun h => .agg rfl fun i a b h1 h2 => by rw [h1] at h2; cases h2; exact h a (List.mem_of_getElem? h1)⟩
@[simp] theorem low_tup_iff (cs : List AV) : Low k (.tup cs) ↔ ∀ a ∈ cs, Low k a := ⟨fun h a ha => by
  cases h with
  | tup hl h =>
    obtain ⟨i, hi⟩ := List.getElem?_of_mem ha
    exact h i a a hi hi, fun h => .tup rfl fun i a b h1 h2 => by rw [h1] at h2; cases h2; exact h a (List.mem_of_getElem? h1)⟩
@[simp] theorem low_fn_iff (f : FuncId) (cs fs : List AV) : Low k (.fn f cs fs) ↔ (∀ a ∈ cs, Low k a) ∧ ∀ a ∈ fs, Low k a := ⟨fun h => by
  cases h with
  | fn hl hm h h' =>
    exact ⟨fun a ha => (by obtain ⟨i, hi⟩ := List.getElem?_of_mem ha; exact h i a a hi hi), fun a ha => (by obtain ⟨i, hi⟩ := List.getElem?_of_mem ha; exact h' i a a hi hi)⟩,
  fun h => .fn rfl rfl (fun i a b h1 h2 => by rw [h1] at h2; cases h2; exact h.1 a (List.mem_of_getElem? h1)) (fun i a b h1 h2 => by rw [h1] at h2; cases h2; exact h.2 a (List.mem_of_getElem? h1))⟩
@[simp] theorem lowO_dead : LowO k .dead := .dead _
@[simp] theorem lowO_rows_iff (sz : Nat) (rs : List (List AV)) : LowO k (.rows sz rs) ↔ allR (Low k) rs := ⟨fun h r hr a ha => by
  obtain ⟨i, hi⟩ := List.getElem?_of_mem hr
  obtain ⟨j, hj⟩ := List.getElem?_of_mem ha
  exact h.cell hi hj, fun h => .rows rfl (fun i r r' h1 h2 => by rw [h1] at h2; cases h2; rfl) fun i r r' j a b h1 h2 h3 h4 => by
    rw [h1] at h2; cases h2
    rw [h3] at h4; cases h4
    exact h r (List.mem_of_getElem? h1) a (List.mem_of_getElem? h3)⟩
@[simp] theorem lowO_imap_iff (es : List (Int × AV)) : LowO k (.imap es) ↔ ∀ e ∈ es, Low k e.2 := ⟨fun h e he => by
  cases h with
  | imap hl h =>
    obtain ⟨i, hi⟩ := List.getElem?_of_mem he
    exact (h i e e hi hi).2, fun h => .imap rfl fun i a b h1 h2 => by
    rw [h1] at h2; cases h2
    exact ⟨rfl, h a (List.mem_of_getElem? h1)⟩⟩
@[simp] theorem lowTm_nil' : lowTm k [] := lowTm_nil k
@[simp] theorem lowTm_cons' (n : Nat) (v : AV) (l : List (Nat × AV)) : lowTm k ((n, v) :: l) ↔ Low k v ∧ lowTm k l :=
  ⟨fun h => ⟨h (n, v) (by simp), fun p hp => h p (by simp [hp])⟩, fun h => lowTm_cons h.1 h.2⟩
@[simp] theorem lowc_rows {α : Type} [Cel α] (xs : List α) : allR (Low k) (xs.map Cel.c) = True := allR_c (fun x a h => low_cell x h) xs
@[simp] theorem lowc_c {α : Type} [Cel α] (x : α) : allC (Low k) (Cel.c x) = True := allC_c (fun x a h => low_cell x h) x
end
attribute [simp] seenH
@[simp] theorem seenOb_self (o : AObj) : seenOb o o := .inl rfl
@[simp] theorem seenH_nil (H : List AObj) : seenH H [] := by cases H <;> trivial
@[simp] theorem seenH_app (H rest : List AObj) : seenH (H ++ rest) H := seenH_refl H rest
@[simp] theorem seenH_self (H : List AObj) : seenH H H := by simpa using seenH_refl H []

/-! ### loops -/
theorem drop_nth {α : Type} {l : List α} {i : Nat} (d : α) (h : i < l.length) : l.drop i = nth l i d :: l.drop (i + 1) := by
  rw [nth_get h]; exact List.drop_eq_getElem_cons h
section
variable {Γ : FuncId → Ctr} {m : Nat} {keep : List Nat} {Q : Exit → AS → Prop} {s : AS}
/-- The state at the head is told by st (or less of it). -/
def atS (keep : List Nat) (t : AS) (s2 : AS) : Prop := seenTm (only s2.tm keep) t.tm ∧ seenH s2.hp t.hp
def lowS (t : AS) : Prop := lowTm t.hp.length t.tm ∧ ∀ o ∈ t.hp, LowO t.hp.length o
theorem atS.weak {t s2 : AS} (h : atS keep t s2) (hm : m ≤ t.hp.length) (hl : lowS t) : Weak m ⟨only s2.tm keep, s2.hp⟩ t := weakG hm h.2 h.1 hl.1 hl.2
/-- A loop by any measure. -/
theorem LoopC.gen {c : ICode} {α : Type _} (st : α → AS) (inv : α → Prop) (μ : α → Nat) (a0 : α) (hl : ∀ a, inv a → m ≤ (st a).hp.length ∧ lowS (st a)) (h0 : atS keep (st a0) s) (hi : inv a0)
    (h : ∀ a, inv a → vc Γ m c (thn (fun s2 => ∃ b, atS keep (st b) s2 ∧ inv b ∧ μ b < μ a) Q) (st a)) : LoopC Γ m keep c Q s := by
  refine ⟨fun n s' => ∃ a, s' = st a ∧ inv a ∧ μ a = n, ⟨μ a0, _, h0.weak (hl a0 hi).1 (hl a0 hi).2, a0, rfl, hi, rfl⟩, fun n s' ⟨a, e, hi, hn⟩ => ?_⟩
  subst e
  subst hn
  refine vc_mono c (thn_mono (fun s2 h => ?_) fun _ _ h => h) (h a hi)
  obtain ⟨b, h1, h2, h3⟩ := h
  exact ⟨μ b, _, h3, h1.weak (hl b h2).1 (hl b h2).2, b, rfl, h2, rfl⟩
theorem BackC.gen {pre rest : ICode} {l : Nat} {α : Type _} (st : α → AS) (inv : α → Prop) (μ : α → Nat) (hl : ∀ a, inv a → m ≤ (st a).hp.length ∧ lowS (st a)) (h0 : vc Γ m pre (thn (fun s2 => ∃ b, atS keep (st b) s2 ∧ inv b) (noGo Q)) s)
    (h : ∀ a, inv a → vc Γ m rest (jmp l (fun s2 => ∃ b, atS keep (st b) s2 ∧ inv b ∧ μ b < μ a) Q) (st a)) : BackC Γ m keep pre l rest Q s := by
  refine ⟨fun n s' => ∃ a, s' = st a ∧ inv a ∧ μ a = n, vc_mono pre (thn_mono (fun s2 h => ?_) fun _ _ h => h) h0, fun n s' ⟨a, e, hi, hn⟩ => ?_⟩
  · obtain ⟨b, h2, h3⟩ := h
    exact ⟨μ b, _, h2.weak (hl b h3).1 (hl b h3).2, b, rfl, h3, rfl⟩
  · subst e
    subst hn
    refine vc_mono rest (fun e s2 h => ?_) (h a hi)
    cases e <;> first | exact h | skip
    obtain ⟨e, b, h1, h2, h3⟩ := h
    exact ⟨e, μ b, _, h3, h1.weak (hl b h2).1 (hl b h2).2, b, rfl, h2, rfl⟩
/-- A loop through a list; β: what else changes. -/
theorem LoopC.scanB {c : ICode} {α : Type _} {β : Type _} (d : α) (l : List α) (st : Nat → β → AS) (G : Nat → β → List α → Prop) (b0 : β) (hm : ∀ i b r, i ≤ l.length → G i b r → m ≤ (st i b).hp.length ∧ lowS (st i b)) (h0 : atS keep (st 0 b0) s) (hG : G 0 b0 l)
    (hstep : ∀ i a r b, i < l.length → nth l i d = a → l.drop i = a :: r → G i b (a :: r) → vc Γ m c (thn (fun s2 => ∃ b', atS keep (st (i + 1) b') s2 ∧ G (i + 1) b' r) Q) (st i b))
    (hend : ∀ b, G l.length b [] → vc Γ m c (thn (fun _ => False) Q) (st l.length b)) : LoopC Γ m keep c Q s := by
  refine LoopC.gen (fun a : Nat × β => st a.1 a.2) (fun a => a.1 ≤ l.length ∧ G a.1 a.2 (l.drop a.1)) (fun a => l.length - a.1) (0, b0) (fun a ha => hm _ _ _ ha.1 ha.2) h0 ⟨Nat.zero_le _, hG⟩ fun ⟨i, b⟩ ⟨hi, hg⟩ => ?_
  simp only at hi hg
  by_cases hlt : i < l.length
  · have hd := drop_nth d hlt
    rw [hd] at hg
    refine vc_mono c (thn_mono (fun s2 h => ?_) fun _ _ h => h) (hstep i _ _ b hlt rfl hd hg)
    obtain ⟨b', h1, h2⟩ := h
    exact ⟨(i + 1, b'), h1, ⟨hlt, h2⟩, by simp only; omega⟩
  · have e : i = l.length := by omega
    subst e
    rw [List.drop_length] at hg
    exact vc_mono c (thn_mono (fun s2 h => h.elim) fun _ _ h => h) (hend b hg)
theorem LoopC.scan {c : ICode} {α : Type _} (d : α) (l : List α) (st : Nat → AS) (G : List α → Prop) (hm : ∀ i, i ≤ l.length → m ≤ (st i).hp.length ∧ lowS (st i)) (h0 : atS keep (st 0) s) (hG : G l)
    (hstep : ∀ i a r, i < l.length → nth l i d = a → G (a :: r) → vc Γ m c (thn (fun s2 => atS keep (st (i + 1)) s2 ∧ G r) Q) (st i))
    (hend : G [] → vc Γ m c (thn (fun _ => False) Q) (st l.length)) : LoopC Γ m keep c Q s :=
  LoopC.scanB (β := Unit) d l (fun i _ => st i) (fun _ _ r => G r) () (fun i b r hi _ => hm i hi) h0 hG (fun i a r b h1 h2 h3 h4 => vc_mono c (thn_mono (fun s2 h => ⟨(), h⟩) fun _ _ h => h) (hstep i a r h1 h2 h4)) fun b h => hend h
theorem BackC.scanB {pre rest : ICode} {lb : Nat} {α : Type _} {β : Type _} (d : α) (l : List α) (st : Nat → β → AS) (G : Nat → β → List α → Prop) (hm : ∀ i b r, i ≤ l.length → G i b r → m ≤ (st i b).hp.length ∧ lowS (st i b))
    (h0 : vc Γ m pre (thn (fun s2 => ∃ b, atS keep (st 0 b) s2 ∧ G 0 b l) (noGo Q)) s)
    (hstep : ∀ i a r b, i < l.length → nth l i d = a → l.drop i = a :: r → G i b (a :: r) → vc Γ m rest (jmp lb (fun s2 => ∃ b', atS keep (st (i + 1) b') s2 ∧ G (i + 1) b' r) Q) (st i b))
    (hend : ∀ b, G l.length b [] → vc Γ m rest (jmp lb (fun _ => False) Q) (st l.length b)) : BackC Γ m keep pre lb rest Q s := by
  refine BackC.gen (fun a : Nat × β => st a.1 a.2) (fun a => a.1 ≤ l.length ∧ G a.1 a.2 (l.drop a.1)) (fun a => l.length - a.1) (fun a ha => hm _ _ _ ha.1 ha.2) (vc_mono pre (thn_mono (fun s2 h => ?_) fun _ _ h => h) h0) fun ⟨i, b⟩ ⟨hi, hg⟩ => ?_
  · obtain ⟨b, h1, h2⟩ := h
    exact ⟨(0, b), h1, Nat.zero_le _, h2⟩
  · simp only at hi hg
    by_cases hlt : i < l.length
    · have hd := drop_nth d hlt
      rw [hd] at hg
      refine vc_mono rest (fun e s2 h => ?_) (hstep i _ _ b hlt rfl hd hg)
      cases e <;> first | exact h | skip
      obtain ⟨e, b', h1, h2⟩ := h
      exact ⟨e, (i + 1, b'), h1, ⟨hlt, h2⟩, by simp only; omega⟩
    · have e : i = l.length := by omega
      subst e
      rw [List.drop_length] at hg
      refine vc_mono rest (fun e s2 h => ?_) (hend b hg)
      cases e <;> first | exact h | skip
      exact h.2.elim
theorem BackC.scan {pre rest : ICode} {lb : Nat} {α : Type _} (d : α) (l : List α) (st : Nat → AS) (G : List α → Prop) (hm : ∀ i, i ≤ l.length → m ≤ (st i).hp.length ∧ lowS (st i)) (hG : G l)
    (h0 : vc Γ m pre (thn (fun s2 => atS keep (st 0) s2) (noGo Q)) s)
    (hstep : ∀ i a r, i < l.length → nth l i d = a → G (a :: r) → vc Γ m rest (jmp lb (fun s2 => atS keep (st (i + 1)) s2 ∧ G r) Q) (st i))
    (hend : G [] → vc Γ m rest (jmp lb (fun _ => False) Q) (st l.length)) : BackC Γ m keep pre lb rest Q s :=
  BackC.scanB (β := Unit) d l (fun i _ => st i) (fun _ _ r => G r) (fun i b r hi _ => hm i hi) (vc_mono pre (thn_mono (fun s2 h => ⟨(), h, hG⟩) fun _ _ h => h) h0) (fun i a r b h1 h2 h3 h4 => vc_mono rest (fun e s2 h => by
    cases e <;> first | exact h | exact ⟨h.1, (), h.2⟩) (hstep i a r h1 h2 h4)) fun b h => hend h
end
attribute [simp] atS lowS Int.natCast_inj BitVec.toNat_inj
theorem imp_pq {a b : Prop} : (a → a ∧ b) ↔ (a → b) := ⟨fun h x => (h x).2, fun h x => ⟨x, h x⟩⟩
theorem imp_qp {a b : Prop} : (a → b ∧ a) ↔ (a → b) := ⟨fun h x => (h x).1, fun h x => ⟨h x, x⟩⟩
theorem imp_k {a b : Prop} : (a → b → a) ↔ True := ⟨fun _ => trivial, fun _ x _ => x⟩
theorem imp_3 {a b c : Prop} : (a → b → a ∧ c) ↔ (a → b → c) := ⟨fun h x y => (h x y).2, fun h x y => ⟨x, h x y⟩⟩
theorem imp_4 {a b c : Prop} : (a → b → c ∧ a) ↔ (a → b → c) := ⟨fun h x y => (h x y).1, fun h x y => ⟨h x y, x⟩⟩
attribute [simp] imp_pq imp_qp imp_k imp_3 imp_4
@[simp] theorem cast_le_lit (n a : Nat) : ((n : Int) ≤ (no_index (OfNat.ofNat a) : Int)) ↔ n ≤ OfNat.ofNat a := Int.ofNat_le
@[simp] theorem cast_lt_lit (n a : Nat) : ((n : Int) < (no_index (OfNat.ofNat a) : Int)) ↔ n < OfNat.ofNat a := Int.ofNat_lt
@[simp] theorem cast_ge_lit (n a : Nat) : ((no_index (OfNat.ofNat a) : Int) ≤ (n : Int)) ↔ OfNat.ofNat a ≤ n := Int.ofNat_le
@[simp] theorem cast_gt_lit (n a : Nat) : ((no_index (OfNat.ofNat a) : Int) < (n : Int)) ↔ OfNat.ofNat a < n := Int.ofNat_lt
@[simp] theorem cast_eq_lit (n a : Nat) : ((n : Int) = (no_index (OfNat.ofNat a) : Int)) ↔ n = OfNat.ofNat a := Int.natCast_inj

/-! ### names anew at a loop's head: g says, for each name of the new state, the old one -/
def rn : Nat → List Nat → AV → AV
  | _, g, .ptr i r o => .ptr (nth g i 0) r o
  | _, g, .sl i r l => .sl (nth g i 0) r l
  | _, g, .map i => .map (nth g i 0)
  | d + 1, g, .agg cs => .agg (cs.map (rn d g))
  | d + 1, g, .tup cs => .tup (cs.map (rn d g))
  | d + 1, g, .fn f cs fs => .fn f (cs.map (rn d g)) (fs.map (rn d g))
  | _, _, v => v
def lowD : Nat → Nat → AV → Prop
  | _, k, .ptr i _ _ => i < k
  | _, k, .sl i _ _ => i < k
  | _, k, .map i => i < k
  | d + 1, k, .agg cs => ∀ a ∈ cs, lowD d k a
  | d + 1, k, .tup cs => ∀ a ∈ cs, lowD d k a
  | d + 1, k, .fn _ cs fs => (∀ a ∈ cs, lowD d k a) ∧ ∀ a ∈ fs, lowD d k a
  | _, _, v => Closed v
theorem seen_rn {g : List Nat} {H : List AObj} : ∀ (d : Nat) (v : AV), lowD d g.length v → Seen H (byG g) (rn d g v) v := fun d => by
  have key : ∀ i, i < g.length → byG g (nth g i 0) i := fun i h => by simp [byG, nth, List.getD_eq_getElem?_getD, List.getElem?_eq_getElem h]
  induction d with
  | zero =>
    intro v h
    cases v <;> simp only [lowD, rn] at h ⊢ <;> first | exact .ptr (key _ h) | exact .sl (key _ h) | exact .map (key _ h) | exact Closed.seen h _ _
  | succ d ih =>
    have lst : ∀ cs : List AV, (∀ a ∈ cs, lowD d g.length a) → ∀ (i : Nat) (a b : AV), (cs.map (rn d g))[i]? = some a → cs[i]? = some b → Seen H (byG g) a b := fun cs hc i a b h1 h2 => by
      simp only [List.getElem?_map, h2, Option.map_some, Option.some.injEq] at h1
      rw [← h1]
      exact ih b (hc b (List.mem_of_getElem? h2))
    intro v h
    cases v <;> simp only [lowD, rn] at h ⊢ <;> first | exact .ptr (key _ h) | exact .sl (key _ h) | exact .map (key _ h) | exact Closed.seen h _ _ | skip
    · exact .fn (by simp) (by simp) (lst _ h.1) (lst _ h.2)
    · exact .agg (by simp) (lst _ h)
    · exact .tup (by simp) (lst _ h)
def rnO (d : Nat) (g : List Nat) : AObj → AObj
  | .dead => .dead
  | .rows sz rs => .rows sz (rs.map fun r => r.map (rn d g))
  | .imap es => .imap (es.map fun e => (e.1, rn d g e.2))
  | .thing x P => .thing x P
def lowOD (d k : Nat) : AObj → Prop
  | .dead => True
  | .rows _ rs => allR (lowD d k) rs
  | .imap es => ∀ e ∈ es, lowD d k e.2
  | .thing _ _ => True
theorem seen_rnO {g : List Nat} {H : List AObj} {d : Nat} {o : AObj} (h : lowOD d g.length o) : SeenO H (byG g) (rnO d g o) o := by
  cases o with
  | dead => exact .dead _
  | rows sz rs =>
    refine .rows (by simp) (fun i r r' h1 h2 => ?_) fun i r r' j a b h1 h2 h3 h4 => ?_
    · simp only [List.getElem?_map, h2, Option.map_some, Option.some.injEq] at h1
      rw [← h1]; simp
    · simp only [List.getElem?_map, h2, Option.map_some, Option.some.injEq] at h1
      rw [← h1] at h3
      simp only [List.getElem?_map, h4, Option.map_some, Option.some.injEq] at h3
      rw [← h3]
      exact seen_rn d b (h r' (List.mem_of_getElem? h2) b (List.mem_of_getElem? h4))
  | imap es =>
    refine .imap (by simp) fun i a b h1 h2 => ?_
    simp only [List.getElem?_map, h2, Option.map_some, Option.some.injEq] at h1
    rw [← h1]
    exact ⟨rfl, seen_rn d b.2 (h b (List.mem_of_getElem? h2))⟩
  | thing x P => exact .thing fun _ _ h => h
def seenTmR (g : List Nat) : List (Nat × AV) → List (Nat × AV) → Prop
  | [], [] => True
  | (k, v) :: l, (k', v') :: l' => k = k' ∧ (v = rn 2 g v' ∨ (v = .nils ∧ v' = .view [])) ∧ lowD 2 g.length v' ∧ seenTmR g l l'
  | _, _ => False
theorem seenTmR_look {g : List Nat} {H : List AObj} : ∀ {tm tm' : List (Nat × AV)}, seenTmR g tm tm' → ∀ i, Seen H (byG g) (look1 tm i) (look1 tm' i)
  | [], [], _, i => .any _
  | (n, v) :: l, (n', v') :: l', h, i => by
    obtain ⟨rfl, h1, h2, h3⟩ := h
    simp only [look1]
    split
    · rcases h1 with rfl | ⟨rfl, rfl⟩
      · exact seen_rn 2 _ h2
      · exact .nilv
    · exact seenTmR_look h3 i
  | [], _ :: _, h, i => h.elim
  | _ :: _, [], h, i => h.elim
/-- The objects of the new state, by their old names. -/
def seenHR (g : List Nat) (H : List AObj) : List Nat → List AObj → Prop
  | [], [] => True
  | i :: is, o :: l => (o = .dead ∨ (H[i]? = some (rnO 2 g o) ∧ lowOD 2 g.length o)) ∧ seenHR g H is l
  | _, _ => False
theorem seenHR_at {g : List Nat} {H : List AObj} : ∀ {is : List Nat} {l : List AObj}, seenHR g H is l → l.length = is.length ∧ ∀ (j i : Nat) o', is[j]? = some i → l[j]? = some o' → o' ≠ .dead → ∃ o, H[i]? = some o ∧ SeenO H (byG g) o o'
  | [], [], _ => ⟨rfl, fun j i o' h => by simp at h⟩
  | i :: is, o :: l, h => by
    obtain ⟨h1, h2⟩ := h
    obtain ⟨h3, h4⟩ := seenHR_at h2
    refine ⟨by simp [h3], fun j k o' hj ho hd => ?_⟩
    cases j with
    | zero =>
      simp at hj ho; subst hj; subst ho
      rcases h1 with h1 | ⟨h1, h5⟩
      · exact absurd h1 hd
      · exact ⟨_, h1, seen_rnO h5⟩
    | succ j => exact h4 j k o' (by simpa using hj) (by simpa using ho) hd
  | [], _ :: _, h => h.elim
  | _ :: _, [], h => h.elim
/-- g keeps the first m names, and names nothing twice. -/
def gOk (m : Nat) (g : List Nat) : Bool := decide (m ≤ g.length) && g.take m == List.range m && decide g.Nodup
section
variable {Γ : FuncId → Ctr} {m : Nat} {keep : List Nat} {Q : Exit → AS → Prop} {s : AS}
def atR (m : Nat) (g keep : List Nat) (t : AS) (s2 : AS) : Prop := gOk m g = true ∧ seenTmR g (only s2.tm keep) t.tm ∧ seenHR g s2.hp g t.hp
theorem atR.weak {g : List Nat} {t s2 : AS} (h : atR m g keep t s2) : Weak m ⟨only s2.tm keep, s2.hp⟩ t := by
  obtain ⟨h1, h2, h3⟩ := h
  simp only [gOk, Bool.and_eq_true, decide_eq_true_eq, beq_iff_eq] at h1
  obtain ⟨⟨h4, h5⟩, h6⟩ := h1
  obtain ⟨h7, h8⟩ := seenHR_at h3
  refine Shed.weak (g := g) ⟨h7, h4, fun j hj => ?_, fun i j k hi hj => ?_, fun j i o' h1 h2 h3 => h8 j i o' h1 h2 h3⟩ (seenTmR_look h2)
  · have : (g.take m)[j]? = some j := by rw [h5]; exact range_get.2 ⟨rfl, hj⟩
    rw [List.getElem?_take_of_lt hj] at this
    exact this
  · have hi' := (List.getElem?_eq_some_iff.1 hi).1
    have hj' := (List.getElem?_eq_some_iff.1 hj).1
    exact (List.getElem?_inj hi' h6).1 (hi.trans hj.symm)
theorem LoopC.genR {c : ICode} {α : Type _} (st : α → AS) (inv : α → Prop) (μ : α → Nat) (a0 : α) (g0 : List Nat) (h0 : atR m g0 keep (st a0) s) (hi : inv a0)
    (h : ∀ a, inv a → vc Γ m c (thn (fun s2 => ∃ b g, atR m g keep (st b) s2 ∧ inv b ∧ μ b < μ a) Q) (st a)) : LoopC Γ m keep c Q s := by
  refine ⟨fun n s' => ∃ a, s' = st a ∧ inv a ∧ μ a = n, ⟨μ a0, _, h0.weak, a0, rfl, hi, rfl⟩, fun n s' ⟨a, e, hi, hn⟩ => ?_⟩
  subst e
  subst hn
  refine vc_mono c (thn_mono (fun s2 h => ?_) fun _ _ h => h) (h a hi)
  obtain ⟨b, g, h1, h2, h3⟩ := h
  exact ⟨μ b, _, h3, h1.weak, b, rfl, h2, rfl⟩
theorem BackC.genR {pre rest : ICode} {l : Nat} {α : Type _} (st : α → AS) (inv : α → Prop) (μ : α → Nat) (h0 : vc Γ m pre (thn (fun s2 => ∃ b g, atR m g keep (st b) s2 ∧ inv b) (noGo Q)) s)
    (h : ∀ a, inv a → vc Γ m rest (jmp l (fun s2 => ∃ b g, atR m g keep (st b) s2 ∧ inv b ∧ μ b < μ a) Q) (st a)) : BackC Γ m keep pre l rest Q s := by
  refine ⟨fun n s' => ∃ a, s' = st a ∧ inv a ∧ μ a = n, vc_mono pre (thn_mono (fun s2 h => ?_) fun _ _ h => h) h0, fun n s' ⟨a, e, hi, hn⟩ => ?_⟩
  · obtain ⟨b, g, h2, h3⟩ := h
    exact ⟨μ b, _, h2.weak, b, rfl, h3, rfl⟩
  · subst e
    subst hn
    refine vc_mono rest (fun e s2 h => ?_) (h a hi)
    cases e <;> first | exact h | skip
    obtain ⟨e, b, g, h1, h2, h3⟩ := h
    exact ⟨e, μ b, _, h3, h1.weak, b, rfl, h2, rfl⟩
theorem LoopC.scanR {c : ICode} {α : Type _} {β : Type _} (d : α) (l : List α) (st : Nat → β → AS) (G : Nat → β → List α → Prop) (b0 : β) (g0 : List Nat) (h0 : atR m g0 keep (st 0 b0) s) (hG : G 0 b0 l)
    (hstep : ∀ i a r b, i < l.length → nth l i d = a → l.drop i = a :: r → G i b (a :: r) → vc Γ m c (thn (fun s2 => ∃ b' g, atR m g keep (st (i + 1) b') s2 ∧ G (i + 1) b' r) Q) (st i b))
    (hend : ∀ b, G l.length b [] → vc Γ m c (thn (fun _ => False) Q) (st l.length b)) : LoopC Γ m keep c Q s := by
  refine LoopC.genR (fun a : Nat × β => st a.1 a.2) (fun a => a.1 ≤ l.length ∧ G a.1 a.2 (l.drop a.1)) (fun a => l.length - a.1) (0, b0) g0 h0 ⟨Nat.zero_le _, hG⟩ fun ⟨i, b⟩ ⟨hi, hg⟩ => ?_
  simp only at hi hg
  by_cases hlt : i < l.length
  · have hd := drop_nth d hlt
    rw [hd] at hg
    refine vc_mono c (thn_mono (fun s2 h => ?_) fun _ _ h => h) (hstep i _ _ b hlt rfl hd hg)
    obtain ⟨b', g, h1, h2⟩ := h
    exact ⟨(i + 1, b'), g, h1, ⟨hlt, h2⟩, by simp only; omega⟩
  · have e : i = l.length := by omega
    subst e
    rw [List.drop_length] at hg
    exact vc_mono c (thn_mono (fun s2 h => h.elim) fun _ _ h => h) (hend b hg)
theorem BackC.scanR {pre rest : ICode} {lb : Nat} {α : Type _} {β : Type _} (d : α) (l : List α) (st : Nat → β → AS) (G : Nat → β → List α → Prop)
    (h0 : vc Γ m pre (thn (fun s2 => ∃ b g, atR m g keep (st 0 b) s2 ∧ G 0 b l) (noGo Q)) s)
    (hstep : ∀ i a r b, i < l.length → nth l i d = a → l.drop i = a :: r → G i b (a :: r) → vc Γ m rest (jmp lb (fun s2 => ∃ b' g, atR m g keep (st (i + 1) b') s2 ∧ G (i + 1) b' r) Q) (st i b))
    (hend : ∀ b, G l.length b [] → vc Γ m rest (jmp lb (fun _ => False) Q) (st l.length b)) : BackC Γ m keep pre lb rest Q s := by
  refine BackC.genR (fun a : Nat × β => st a.1 a.2) (fun a => a.1 ≤ l.length ∧ G a.1 a.2 (l.drop a.1)) (fun a => l.length - a.1) (vc_mono pre (thn_mono (fun s2 h => ?_) fun _ _ h => h) h0) fun ⟨i, b⟩ ⟨hi, hg⟩ => ?_
  · obtain ⟨b, g, h1, h2⟩ := h
    exact ⟨(0, b), g, h1, Nat.zero_le _, h2⟩
  · simp only at hi hg
    by_cases hlt : i < l.length
    · have hd := drop_nth d hlt
      rw [hd] at hg
      refine vc_mono rest (fun e s2 h => ?_) (hstep i _ _ b hlt rfl hd hg)
      cases e <;> first | exact h | skip
      obtain ⟨e, b', g, h1, h2⟩ := h
      exact ⟨e, (i + 1, b'), g, h1, ⟨hlt, h2⟩, by simp only; omega⟩
    · have e : i = l.length := by omega
      subst e
      rw [List.drop_length] at hg
      refine vc_mono rest (fun e s2 h => ?_) (hend b hg)
      cases e <;> first | exact h | skip
      exact h.2.elim
end
theorem closed_agg_inv {cs : List AV} (h : Closed (.agg cs)) : ∀ a ∈ cs, Closed a := fun a ha => by
  cases h with
  | agg hl h =>
    obtain ⟨i, hi⟩ := List.getElem?_of_mem ha
    exact h i a a hi hi
theorem closed_tup_inv {cs : List AV} (h : Closed (.tup cs)) : ∀ a ∈ cs, Closed a := fun a ha => by
  cases h with
  | tup hl h =>
    obtain ⟨i, hi⟩ := List.getElem?_of_mem ha
    exact h i a a hi hi
theorem closed_fn_inv {f : FuncId} {cs fs : List AV} (h : Closed (.fn f cs fs)) : (∀ a ∈ cs, Closed a) ∧ ∀ a ∈ fs, Closed a := by
  cases h with
  | fn hl hm h h' =>
    refine ⟨fun a ha => ?_, fun a ha => ?_⟩
    · obtain ⟨i, hi⟩ := List.getElem?_of_mem ha
      exact h i a a hi hi
    · obtain ⟨i, hi⟩ := List.getElem?_of_mem ha
      exact h' i a a hi hi
theorem map_self {α : Type} {f : α → α} {l : List α} (h : ∀ a ∈ l, f a = a) : l.map f = l := by
  conv => rhs; rw [← List.map_id l]
  exact List.map_congr_left h
theorem rn_of_closed (g : List Nat) : ∀ (d : Nat) (a : AV), Closed a → rn d g a = a := fun d => by
  induction d with
  | zero => intro a h; cases a <;> first | rfl | (cases h with | ptr h => exact h.elim) | (cases h with | sl h => exact h.elim) | (cases h with | map h => exact h.elim)
  | succ d ih =>
    intro a h
    cases a <;> first | rfl | (cases h with | ptr h => exact h.elim) | (cases h with | sl h => exact h.elim) | (cases h with | map h => exact h.elim) | skip
    · simp only [rn]
      rw [map_self fun a ha => ih a ((closed_fn_inv h).1 a ha), map_self fun a ha => ih a ((closed_fn_inv h).2 a ha)]
    · simp only [rn]
      rw [map_self fun a ha => ih a (closed_agg_inv h a ha)]
    · simp only [rn]
      rw [map_self fun a ha => ih a (closed_tup_inv h a ha)]
theorem lowD_of_closed (k : Nat) : ∀ (d : Nat) (a : AV), Closed a → lowD d k a := fun d => by
  induction d with
  | zero => intro a h; cases a <;> first | exact h | (cases h with | ptr h => exact h.elim) | (cases h with | sl h => exact h.elim) | (cases h with | map h => exact h.elim)
  | succ d ih =>
    intro a h
    cases a <;> first | exact h | (cases h with | ptr h => exact h.elim) | (cases h with | sl h => exact h.elim) | (cases h with | map h => exact h.elim) | skip
    · exact ⟨fun a ha => ih a ((closed_fn_inv h).1 a ha), fun a ha => ih a ((closed_fn_inv h).2 a ha)⟩
    · exact fun a ha => ih a (closed_agg_inv h a ha)
    · exact fun a ha => ih a (closed_tup_inv h a ha)
@[simp] theorem rn_c {α : Type} [Cel α] (d : Nat) (g : List Nat) (x : α) : (Cel.c x).map (rn d g) = Cel.c x := map_self fun a ha => rn_of_closed g d a (Cel.closed x a ha)
@[simp] theorem rn_rows {α : Type} [Cel α] (d : Nat) (g : List Nat) (xs : List α) : (xs.map Cel.c).map (fun r => r.map (rn d g)) = xs.map Cel.c := by
  rw [List.map_map]; exact List.map_congr_left fun x _ => rn_c d g x
@[simp] theorem rn_rows' {α : Type} [Cel α] (d : Nat) (g : List Nat) (xs : List α) : xs.map ((fun r => r.map (rn d g)) ∘ Cel.c) = xs.map Cel.c := List.map_congr_left fun x _ => rn_c d g x
theorem lowD_cell {α : Type} [Cel α] (d k : Nat) (x : α) (a : AV) (h : a ∈ Cel.c x) : lowD d k a := lowD_of_closed k d a (Cel.closed x a h)
@[simp] theorem lowD_rows {α : Type} [Cel α] (d k : Nat) (xs : List α) : allR (lowD d k) (xs.map Cel.c) = True := allR_c (lowD_cell d k) xs
@[simp] theorem lowD_c {α : Type} [Cel α] (d k : Nat) (x : α) : allC (lowD d k) (Cel.c x) = True := allC_c (lowD_cell d k) x
@[simp] theorem closed_cvc {α : Type} [Cel α] (xs : List α) : Closed (.cv (xs.map Cel.c)) := closed_cv (closed_viewc xs)
@[simp] theorem low_cvc {k : Nat} {α : Type} [Cel α] (xs : List α) : Low k (.cv (xs.map Cel.c)) := (closed_cv (closed_viewc xs)).seen _ _
@[simp] theorem closed_viewc' {α : Type} [Cel α] (xs : List α) : Closed (.view (xs.map Cel.c)) := closed_viewc xs
@[simp] theorem rnO_dead (d : Nat) (g : List Nat) : rnO d g .dead = .dead := rfl
@[simp] theorem rnO_rows (d : Nat) (g : List Nat) (sz : Nat) (rs : List (List AV)) : rnO d g (.rows sz rs) = .rows sz (rs.map fun r => r.map (rn d g)) := rfl
@[simp] theorem rnO_imap (d : Nat) (g : List Nat) (es : List (Int × AV)) : rnO d g (.imap es) = .imap (es.map fun e => (e.1, rn d g e.2)) := rfl
@[simp] theorem rnO_thing (d : Nat) (g : List Nat) {τ : Type} (x : τ) (P : Env → Loc → Prop) : rnO d g (.thing x P) = .thing x P := rfl
@[simp] theorem lowOD_thing (d k : Nat) {τ : Type} (x : τ) (P : Env → Loc → Prop) : lowOD d k (.thing x P) = True := rfl
@[simp] theorem lowO_thing (k : Nat) {τ : Type} (x : τ) (P : Env → Loc → Prop) : LowO k (.thing x P) := .thing fun _ _ h => h
@[simp] theorem lowOD_dead (d k : Nat) : lowOD d k .dead = True := rfl
@[simp] theorem lowOD_rows (d k sz : Nat) (rs : List (List AV)) : lowOD d k (.rows sz rs) = allR (lowD d k) rs := rfl
@[simp] theorem lowOD_imap (d k : Nat) (es : List (Int × AV)) : lowOD d k (.imap es) = ∀ e ∈ es, lowD d k e.2 := rfl
attribute [simp] rn lowD seenTmR seenHR gOk
@[simp] theorem closed_nils : Closed .nils := .nils
@[simp] theorem closed_nilp : Closed .nilp := .nilp
@[simp] theorem closed_nilm : Closed .nilm := .nilm
@[simp] theorem closed_any : Closed .any := .any _
@[simp] theorem closed_val (v : Value) : Closed (.val v) := .val v
@[simp] theorem closed_str (v : ByteArray) : Closed (.str v) := .str v
theorem mixed0 : Try.prog.follows .mixedOrders = true := by kernel_rfl
end Go.Proofs.Ytnjpfoblmomnlaa.Sx
