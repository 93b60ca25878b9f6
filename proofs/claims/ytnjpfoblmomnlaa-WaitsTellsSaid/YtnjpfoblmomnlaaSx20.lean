/- The rules by which the proofs of functions go: ends, loops, contracts; the words that 'simp' runs code with. No conditions: a kit of our own. -/
import Derived.Test.YtnjpfoblmomnlaaSx19
namespace Go.Proofs.Ytnjpfoblmomnlaa.Sx
open Go Go.RowKit
set_option linter.unusedVariables false
set_option linter.unusedSimpArgs false

/-! ### contracts -/
def noCtr : Ctr := ⟨fun _ _ => False, fun _ _ => .any, fun _ h => h⟩
def Γof : List (FuncId × Ctr) → FuncId → Ctr
  | [], _ => noCtr
  | (g, c) :: l, f => if f = g then c else Γof l f
def Known (P : Program) (f : FuncId) (c : Ctr) : Prop := ∀ args H, c.pre args H → Det P f args H (c.val args H) (c.hp args H)
theorem knows_nil {P : Program} : Knows P (Γof []) := fun f args H h => h.elim
theorem knows_cons {P : Program} {g : FuncId} {c : Ctr} {l : List (FuncId × Ctr)} (h : Known P g c) (t : Knows P (Γof l)) : Knows P (Γof ((g, c) :: l)) := fun f args H hp => by
  simp only [Γof] at *
  split at hp
  · rename_i e; subst e; simp only [if_true] at *; exact h args H hp
  · rename_i e; simp only [if_neg e]; exact t f args H hp
/-- A contract that leaves the heap. -/
def pureC (pre : List AV → Prop) (val : List AV → AV) : Ctr := ⟨fun a _ => pre a, fun a _ => val a, fun _ h => h⟩

/-! ### ends -/
/-- A pointer to a box of one's own, frozen. -/
def ptrF (g : AV → AV) (H : List AObj) : AV → AV
  | .ptr id r o => .vp ((nth (rowsOf H id) r []).map g) o
  | a => a
def ptrQ (k : Nat → Prop) (q : AV → Prop) (H : List AObj) : AV → Prop
  | .ptr id r o => k id ∧ isRows H id ∧ r < (rowsOf H id).length ∧ ∀ a ∈ nth (rowsOf H id) r [], q a
  | a => Closed a
@[simp] theorem ptrF_ptr (g : AV → AV) (H : List AObj) (id r o : Nat) : ptrF g H (.ptr id r o) = .vp ((nth (rowsOf H id) r []).map g) o := rfl
@[simp] theorem ptrF_vp (g : AV → AV) (H : List AObj) (row : List AV) (o : Nat) : ptrF g H (.vp row o) = .vp row o := rfl
@[simp] theorem ptrQ_ptr (k : Nat → Prop) (q : AV → Prop) (H : List AObj) (id r o : Nat) : ptrQ k q H (.ptr id r o) = (k id ∧ isRows H id ∧ r < (rowsOf H id).length ∧ ∀ a ∈ nth (rowsOf H id) r [], q a) := rfl
@[simp] theorem ptrQ_vp (k : Nat → Prop) (q : AV → Prop) (H : List AObj) (row : List AV) (o : Nat) : ptrQ k q H (.vp row o) = Closed (.vp row o) := rfl
theorem ptrF_closed {g : AV → AV} {H : List AObj} {a : AV} (h : Closed a) : ptrF g H a = a := by
  cases a <;> first | rfl | (cases h with | ptr h => exact h.elim)
theorem ptrQ_closed {k : Nat → Prop} {q : AV → Prop} {H : List AObj} {a : AV} (h : Closed a) : ptrQ k q H a := by
  cases a <;> first | exact h | (cases h with | ptr h => exact h.elim)
theorem ptrF_seen {R : Nat → Nat → Prop} {k : Nat → Prop} {g : AV → AV} {q : AV → Prop} {H : List AObj} {a : AV} (hk : ∀ i, k i → ∀ j, ¬ R i j) (hg : ∀ a, q a → Seen H R a (g a)) (h : ptrQ k q H a) : Seen H R a (ptrF g H a) := by
  cases a <;> first | exact Closed.seen h _ _ | skip
  rename_i id r o
  obtain ⟨h0, h1, h2, h3⟩ := h
  obtain ⟨sz, rs, e, e1, e2⟩ := isRows_some h1
  rw [e1] at h2 h3
  simp only [ptrF_ptr, e1]
  have e0 : nth rs r [] = rs[r] := by simp [nth, List.getD_eq_getElem?_getD, List.getElem?_eq_getElem h2]
  rw [e0] at h3 ⊢
  refine .fzp e (hk _ h0) (List.getElem?_eq_getElem h2) (by simp) fun i a b h1 h2 => ?_
  simp only [List.getElem?_map, h1, Option.map_some, Option.some.injEq] at h2
  rw [← h2]
  exact hg a (h3 a (List.mem_of_getElem? h1))
theorem each_map {R : AV → AV → Prop} {g : AV → AV} {l : List AV} (h : ∀ a ∈ l, R a (g a)) (i : Nat) (a b : AV) (h1 : l[i]? = some a) (h2 : (l.map g)[i]? = some b) : R a b := by
  simp only [List.getElem?_map, h1, Option.map_some, Option.some.injEq] at h2
  rw [← h2]; exact h a (List.mem_of_getElem? h1)
def frz : Nat → List AObj → AV → AV
  | 0, _, x => x
  | d + 1, H, x => match x with
    | .sl id r l => .view ((((rowsOf H id).drop r).take l).map fun row => row.map (frz d H))
    | .nils => .view []
    | .tup vs => .tup (vs.map (frz d H))
    | .agg cs => .agg (cs.map (frz d H))
    | .ptr id r o => .vp ((nth (rowsOf H id) r []).map (frz d H)) o
    | .fn f cs fs => .fn f cs (fs.map (ptrF (frz d H) H))
    | x => x
def frp : Nat → List AObj → AV → Prop
  | 0, _, x => Closed x
  | d + 1, H, x => match x with
    | .sl id r l => isRows H id ∧ r + l ≤ (rowsOf H id).length ∧ ∀ row ∈ ((rowsOf H id).drop r).take l, ∀ a ∈ row, frp d H a
    | .nils => True
    | .tup vs => ∀ a ∈ vs, frp d H a
    | .agg cs => ∀ a ∈ cs, frp d H a
    | .ptr id r o => isRows H id ∧ r < (rowsOf H id).length ∧ ∀ a ∈ nth (rowsOf H id) r [], frp d H a
    | .fn f cs fs => (∀ a ∈ cs, Closed a) ∧ ∀ a ∈ fs, ptrQ (fun _ => True) (frp d H) H a
    | x => Closed x
theorem frz_seen : ∀ (d : Nat) (H : List AObj) (x : AV), frp d H x → Seen H (fun _ _ => False) x (frz d H x)
  | 0, H, x, h => Closed.seen h _ _
  | d + 1, H, x, h => by
    have cell : ∀ row : List AV, (∀ a ∈ row, frp d H a) → ∀ (i : Nat) (a b : AV), row[i]? = some a → (row.map (frz d H))[i]? = some b → Seen H (fun _ _ => False) a b := fun row hr i a b h1 h2 => by
      simp only [List.getElem?_map, h1, Option.map_some, Option.some.injEq] at h2
      rw [← h2]
      exact frz_seen d H a (hr a (List.mem_of_getElem? h1))
    cases x <;> simp only [frz, frp] at h ⊢ <;> try exact Closed.seen h _ _
    · rename_i id r o
      obtain ⟨h1, h2, h3⟩ := h
      obtain ⟨sz, rs, e, e1, e2⟩ := isRows_some h1
      rw [e1] at h2 h3 ⊢
      have e0 : nth rs r [] = rs[r] := by simp [nth, List.getD_eq_getElem?_getD, List.getElem?_eq_getElem h2]
      rw [e0] at h3 ⊢
      exact .fzp e (fun _ h => h) (List.getElem?_eq_getElem h2) (by simp) (cell _ h3)
    · exact .nilv
    · rename_i id r l
      obtain ⟨h1, h2, h3⟩ := h
      obtain ⟨sz, rs, e, e1, e2⟩ := isRows_some h1
      rw [e1] at h2 h3 ⊢
      refine .fz e (fun j h => h) h2 (by simp; omega) (fun i x x' hx hx' => ?_) fun i x x' j a b hx hx' ha hb => ?_
      · simp only [List.getElem?_map, Option.map_eq_some_iff] at hx'
        obtain ⟨y, hy, rfl⟩ := hx'
        rw [List.getElem?_take, List.getElem?_drop] at hy
        split at hy
        · rw [hx] at hy; cases hy; simp
        · cases hy
      · simp only [List.getElem?_map, Option.map_eq_some_iff] at hx'
        obtain ⟨y, hy, rfl⟩ := hx'
        have hy' := hy
        rw [List.getElem?_take, List.getElem?_drop] at hy
        split at hy
        · rw [hx] at hy; cases hy
          exact cell x (h3 x (List.mem_of_getElem? hy')) j a b ha hb
        · cases hy
    · exact .fn rfl (by simp) (fun i a b h1 h2 => by rw [h1] at h2; cases h2; exact Closed.seen (h.1 a (List.mem_of_getElem? h1)) _ _) (each_map fun a ha => ptrF_seen (fun _ _ _ h => h) (frz_seen d H) (h.2 a ha))
    · rename_i cs; exact .agg (by simp) (cell cs h)
    · rename_i vs; exact .tup (by simp) (cell vs h)

/-- An end at which nothing is told otherwise. -/
def fin0 (rs : List IRes) (x : AV) (H : List AObj) : Exit → AS → Prop
  | .normal, s | .ret, s => resp s rs ∧ one (resv s rs) = x ∧ s.hp = H
  | _, _ => False
/-- An end that leaves no heap; slices in the result are nobody's own from then on. -/
def finF (d : Nat) (rs : List IRes) (x : AV) : Exit → AS → Prop
  | .normal, s | .ret, s => resp s rs ∧ frp d s.hp (one (resv s rs)) ∧ frz d s.hp (one (resv s rs)) = x
  | _, _ => False

section
variable {P : Program} {Γ : FuncId → Ctr}
theorem det_fin0 (hmix : P.follows .mixedOrders = true) (hG : Knows P Γ) {f : FuncId} {ic : ICode} {rs : List IRes} {nt : Nat} (hf : fnOk P f ic rs nt = true) {args : List AV} {H H' : List AObj} {x : AV} (hn : args.length ≤ nt)
    (h : vc Γ H.length ic (fin0 rs x H') ⟨slots 0 args, H⟩) : Det P f args H x H' := acall_of_vcQ hmix hG hf hn h fun e s h => by
  cases e <;> first | exact h.elim | exact ⟨h.1, _, _, .refl, h.2.1, h.2.2⟩
theorem det_finF (hmix : P.follows .mixedOrders = true) (hG : Knows P Γ) {f : FuncId} {ic : ICode} {rs : List IRes} {nt : Nat} (hf : fnOk P f ic rs nt = true) {args : List AV} {x : AV} (d : Nat) (hn : args.length ≤ nt)
    (h : vc Γ 0 ic (finF d rs x) ⟨slots 0 args, []⟩) : Det P f args [] x [] := acall_of_vcQ hmix hG hf hn h fun e s h => by
  have key : resp s rs ∧ frp d s.hp (one (resv s rs)) ∧ frz d s.hp (one (resv s rs)) = x → fin ([] : List AObj).length rs (fun y h => y = x ∧ h = []) .normal s := fun ⟨h1, h2, h3⟩ =>
    ⟨h1, x, [], Shed.weakR (g := []) ⟨rfl, Nat.le_refl _, fun j h => by simp at h, fun i j k h => by simp at h, fun j i o h => by simp at h⟩ (by
      rw [← h3]
      have : byG [] = fun _ _ => False := by funext i j; simp [byG]
      rw [this]
      exact frz_seen d _ _ h2), rfl, rfl⟩
  cases e <;> first | exact h.elim | exact key h
end

/-! ### a greater end -/
section
variable {Γ : FuncId → Ctr} {m : Nat}
theorem vcOps_mono {K K' : AS → Prop} (hk : ∀ s, K s → K' s) : ∀ (l : List IOper) (s : AS), vcOps Γ l K s → vcOps Γ l K' s
  | [], s, h => hk s h
  | o :: l, s, h => by
    unfold vcOps at h ⊢
    split at h
    · exact ⟨h.1, fun e => ⟨(h.2.1 e).1, vcOps_mono hk l _ (h.2.1 e).2⟩, fun e => vcOps_mono hk l _ (h.2.2 e)⟩
    · split at h
      · split at h
        · exact fun b e => vcOps_mono hk l _ (h b e)
        · exact ⟨h.1, vcOps_mono hk l _ h.2⟩
      · exact ⟨h.1, vcOps_mono hk l _ h.2⟩
    · exact ⟨h.1, vcOps_mono hk l _ h.2⟩
theorem vcChain_mono {K K' : AS → Prop} (hk : ∀ s, K s → K' s) : ∀ (l : List IOper) (s : AS), vcChain Γ l K s → vcChain Γ l K' s
  | [], s, h => hk s h
  | o :: l, s, h => ⟨h.1, h.2.1, vcChain_mono hk l _ h.2.2⟩
theorem thn_mono {K K' : AS → Prop} {Q Q' : Exit → AS → Prop} (hk : ∀ s, K s → K' s) (hq : ∀ e s, Q e s → Q' e s) (e : Exit) (s : AS) (h : thn K Q e s) : thn K' Q' e s := by
  cases e <;> first | exact hk s h | exact hq _ _ h
theorem blk_mono {id : Nat} {Q Q' : Exit → AS → Prop} (hq : ∀ e s, Q e s → Q' e s) (e : Exit) (s : AS) (h : blk id Q e s) : blk id Q' e s := by
  cases e <;> try exact hq _ _ h
  rename_i k
  simp only [blk] at h ⊢
  by_cases hk : k = id
  · rw [if_pos hk] at h ⊢; exact hq _ _ h
  · rw [if_neg hk] at h ⊢; exact hq _ _ h
theorem mend_mono {m mid : Nat} {es : List (Int × AV)} {R : Env → Loc → Prop} {keep : List Nat} {J : AS → Prop} {Q Q' : Exit → AS → Prop} (hq : ∀ e s, Q e s → Q' e s) (e : Exit) (s : AS) (h : mend m mid es R keep J Q e s) : mend m mid es R keep J Q' e s := by
  cases e <;> first | exact h | exact ⟨h.1, hq _ _ h.2⟩
theorem vc_mono : ∀ (ic : ICode) {m : Nat} {Q Q' : Exit → AS → Prop}, (∀ e s, Q e s → Q' e s) → ∀ {s : AS}, vc Γ m ic Q s → vc Γ m ic Q' s
  | .skip, m, Q, Q', hq, s, h => hq _ _ h
  | .ops _ draw l, m, Q, Q', hq, s, h => by
    simp only [vc] at h ⊢
    cases draw
    · exact vcOps_mono (hq .normal) l s h
    · exact ⟨vcChain_mono (hq .normal) l s h.1, h.2⟩
  | .seq a b, m, Q, Q', hq, s, h => vc_mono a (thn_mono (fun s h => vc_mono b hq h) hq) h
  | .cond x a b, m, Q, Q', hq, s, h => by
    simp only [vc] at h ⊢
    split at h
    · exact ⟨fun e => vc_mono a hq (h.1 e), fun e => vc_mono b hq (h.2 e)⟩
    · exact h.elim
  | .block id c, m, Q, Q', hq, s, h => vc_mono c (fun e s h => by
    cases e <;> try exact hq _ _ h
    rename_i k
    simp only [blk] at h ⊢
    by_cases hk : k = id
    · rw [if_pos hk] at h ⊢; exact hq _ _ h
    · rw [if_neg hk] at h ⊢; exact hq _ _ h) h
  | .loop keep c, m, Q, Q', hq, s, h => by
    obtain ⟨I, h1, h2⟩ := h
    exact ⟨I, h1, fun n s' hi => vc_mono c (thn_mono (fun _ h => h) hq) (h2 n s' hi)⟩
  | .exit id, m, Q, Q', hq, s, h => hq _ _ h
  | .scope c, m, Q, Q', hq, s, h => vc_mono c (fun e s h => by cases e <;> first | exact hq _ _ h | exact h) h
  | .back keep pre l rest, m, Q, Q', hq, s, h => by
    obtain ⟨I, h1, h2⟩ := h
    refine ⟨I, vc_mono pre (thn_mono (fun _ h => h) fun e s h => by cases e <;> first | exact hq _ _ h | exact h) h1, fun n s' hi => vc_mono rest (fun e s h => ?_) (h2 n s' hi)⟩
    cases e <;> first | exact hq _ _ h | exact h
  | .label _, m, Q, Q', hq, s, h => hq _ _ h
  | .goto l, m, Q, Q', hq, s, h => hq _ _ h
  | .ret, m, Q, Q', hq, s, h => hq _ _ h
  | .join keep c, m, Q, Q', hq, s, h => by
    obtain ⟨J, h1, h2⟩ := h
    exact ⟨J, vc_mono c (thn_mono (fun _ h => h) hq) h1, fun s' hj => hq _ _ (h2 s' hj)⟩
  | .mrange l r it nx q en e0 e1 k v keep b1 b0 c, m, Q, Q', hq, s, h => by
    refine vcOps_mono (fun s1 h1 => ?_) l s h
    obtain ⟨mid, es, h1, h2, h3, h4⟩ := h1
    refine ⟨mid, es, h1, h2, h3, fun pv R => ?_⟩
    obtain ⟨I, h5, h6⟩ := h4 pv R
    refine ⟨I, h5, fun done s' hi => ?_⟩
    obtain ⟨k1, k2, k3⟩ := h6 done s' hi
    exact ⟨k1, fun x hx hd => vc_mono c (blk_mono (mend_mono (blk_mono hq))) (k2 x hx hd), fun ha => hq _ _ (k3 ha)⟩
end

/-! ### loops -/
section
variable {Γ : FuncId → Ctr} {m : Nat} {keep : List Nat} {Q : Exit → AS → Prop} {s : AS}
end

/-! ### code, one step at a time, all arguments there -/
section
variable {Γ : FuncId → Ctr} {m : Nat} {Q : Exit → AS → Prop} {s : AS}
def LoopC (Γ : FuncId → Ctr) (m : Nat) (keep : List Nat) (c : ICode) (Q : Exit → AS → Prop) (s : AS) : Prop := Looped m keep (vc Γ m c) Q s
def BackC (Γ : FuncId → Ctr) (m : Nat) (keep : List Nat) (pre : ICode) (l : Nat) (rest : ICode) (Q : Exit → AS → Prop) (s : AS) : Prop := Backed m keep l (vc Γ m pre) (vc Γ m rest) Q s
def JoinC (Γ : FuncId → Ctr) (m : Nat) (keep : List Nat) (c : ICode) (Q : Exit → AS → Prop) (s : AS) : Prop := Joined keep (vc Γ m c) Q s
@[simp] theorem vc_skip : vc Γ m .skip Q s = Q .normal s := rfl
@[simp] theorem vc_ops {id : Nat} {l : List IOper} : vc Γ m (.ops id false l) Q s = vcOps Γ l (Q .normal) s := rfl
@[simp] theorem vc_opsD {id : Nat} {l : List IOper} : vc Γ m (.ops id true l) Q s = vcOpsD Γ l (Q .normal) s := rfl
@[simp] theorem vc_seq {a b : ICode} : vc Γ m (.seq a b) Q s = vc Γ m a (thn (vc Γ m b Q) Q) s := rfl
def cnd (x : AV) (p q : Prop) : Prop := match x with
  | .bool t => (t = true → p) ∧ (t = false → q)
  | _ => False
@[simp] theorem vc_cond {x : Opd} {a b : ICode} : vc Γ m (.cond x a b) Q s = cnd (s.ev x) (vc Γ m a Q s) (vc Γ m b Q s) := rfl
@[simp] theorem cnd_bool {t : Bool} {p q : Prop} : cnd (.bool t) p q = ((t = true → p) ∧ (t = false → q)) := rfl
@[simp] theorem vc_block {id : Nat} {c : ICode} : vc Γ m (.block id c) Q s = vc Γ m c (blk id Q) s := rfl
@[simp] theorem vc_loop {keep : List Nat} {c : ICode} : vc Γ m (.loop keep c) Q s = LoopC Γ m keep c Q s := rfl
@[simp] theorem vc_exit {id : Nat} : vc Γ m (.exit id) Q s = Q (.exit id) s := rfl
@[simp] theorem vc_scope {c : ICode} : vc Γ m (.scope c) Q s = vc Γ m c (noGo Q) s := rfl
@[simp] theorem vc_back {keep : List Nat} {pre rest : ICode} {l : Nat} : vc Γ m (.back keep pre l rest) Q s = BackC Γ m keep pre l rest Q s := rfl
@[simp] theorem vc_label {l : Nat} : vc Γ m (.label l) Q s = Q .normal s := rfl
@[simp] theorem vc_goto {l : Nat} : vc Γ m (.goto l) Q s = Q (.goto l) s := rfl
@[simp] theorem vc_ret : vc Γ m .ret Q s = Q .ret s := rfl
/-- A loop through a map, with its body's code. -/
def RangeC (Γ : FuncId → Ctr) (m mid : Nat) (es : List (Int × AV)) (it k v : Nat) (keep : List Nat) (b1 b0 : Nat) (c : ICode) (Q : Exit → AS → Prop) (s : AS) : Prop := Ranged m mid es it k v keep b1 b0 (vc Γ m c) Q s
def atMap (Γ : FuncId → Ctr) (x : AV) (it k v : Nat) (keep : List Nat) (b1 b0 : Nat) (c : ICode) (Q : Exit → AS → Prop) (s : AS) : Prop := match x with
  | .map mid => isMap s.hp mid ∧ RangeC Γ s.hp.length mid (mapOf s.hp mid) it k v keep b1 b0 c Q s
  | _ => False
@[simp] theorem atMap_map (mid it k v : Nat) (keep : List Nat) (b1 b0 : Nat) (c : ICode) : atMap Γ (.map mid) it k v keep b1 b0 c Q s = (isMap s.hp mid ∧ RangeC Γ s.hp.length mid (mapOf s.hp mid) it k v keep b1 b0 c Q s) := rfl
@[simp] theorem vc_mrange {l : List IOper} {r it nx q en e0 e1 k v b1 b0 : Nat} {keep : List Nat} {c : ICode} : vc Γ m (.mrange l r it nx q en e0 e1 k v keep b1 b0 c) Q s = vcOps Γ l (fun s1 => atMap Γ (look1 s1.tm r) it k v keep b1 b0 c Q s1) s := by
  show vcOps Γ l _ s = _
  congr 1
  funext s1
  refine propext ⟨fun ⟨mid, es, h1, h2, h3⟩ => ?_, fun h => ?_⟩
  · rw [h1]
    have e : mapOf s1.hp mid = es := by simp [mapOf, h2]
    refine ⟨by simp [isMap, h2], ?_⟩
    rw [e]; exact h3
  · unfold atMap at h
    split at h
    · rename_i mid e
      obtain ⟨es, h2, h3⟩ := isMap_some h.1
      have h4 := h.2
      rw [h3] at h4
      exact ⟨mid, es, e, h2, h4⟩
    · exact h.elim
@[simp] theorem vc_join {keep : List Nat} {c : ICode} : vc Γ m (.join keep c) Q s = JoinC Γ m keep c Q s := rfl
@[simp] theorem thn_normal {K : AS → Prop} : thn K Q .normal s = K s := rfl
@[simp] theorem thn_exit {K : AS → Prop} {id : Nat} : thn K Q (.exit id) s = Q (.exit id) s := rfl
@[simp] theorem thn_goto {K : AS → Prop} {l : Nat} : thn K Q (.goto l) s = Q (.goto l) s := rfl
@[simp] theorem thn_ret {K : AS → Prop} : thn K Q .ret s = Q .ret s := rfl
@[simp] theorem blk_normal {id : Nat} : blk id Q .normal s = Q .normal s := rfl
@[simp] theorem blk_exit {id id' : Nat} : blk id Q (.exit id') s = if id' = id then Q .normal s else Q (.exit id') s := rfl
@[simp] theorem blk_goto {id l : Nat} : blk id Q (.goto l) s = Q (.goto l) s := rfl
@[simp] theorem blk_ret {id : Nat} : blk id Q .ret s = Q .ret s := rfl
@[simp] theorem noGo_normal : noGo Q .normal s = Q .normal s := rfl
@[simp] theorem noGo_exit {id : Nat} : noGo Q (.exit id) s = Q (.exit id) s := rfl
@[simp] theorem noGo_ret : noGo Q .ret s = Q .ret s := rfl
@[simp] theorem noGo_goto {l : Nat} : noGo Q (.goto l) s = False := rfl
@[simp] theorem jmp_normal {l : Nat} {J : AS → Prop} : jmp l J Q .normal s = Q .normal s := rfl
@[simp] theorem jmp_exit {l id : Nat} {J : AS → Prop} : jmp l J Q (.exit id) s = Q (.exit id) s := rfl
@[simp] theorem jmp_ret {l : Nat} {J : AS → Prop} : jmp l J Q .ret s = Q .ret s := rfl
@[simp] theorem jmp_goto {l l' : Nat} {J : AS → Prop} : jmp l J Q (.goto l') s = (l' = l ∧ J s) := rfl

end

/-! ### values -/
def rI (x : Int) : List AV := [.int .i64 x]
def vI (xs : List Int) : AV := .view (xs.map rI)
def unI : AV → List Int
  | .view es => es.map fun r => numOf (r.getD 0 .any)
  | _ => []
theorem unI_vI (xs : List Int) : unI (vI xs) = xs := by
  simp only [vI, unI, List.map_map]
  conv => rhs; rw [← List.map_id xs]
  apply List.map_congr_left
  intro x _
  rfl
theorem vI_inj {xs ys : List Int} : vI xs = vI ys ↔ xs = ys := ⟨fun h => by rw [← unI_vI xs, h, unI_vI], fun h => by rw [h]⟩
@[simp] theorem nth_zero {α : Type} (x : α) (l : List α) (d : α) : nth (x :: l) 0 d = x := rfl
@[simp] theorem nth_succ {α : Type} (x : α) (l : List α) (n : Nat) (d : α) : nth (x :: l) (n + 1) d = nth l n d := rfl
theorem nth_map {α : Type} (f : α → List AV) (d : α) (xs : List α) (n : Nat) : nth (xs.map f) n (f d) = f (nth xs n d) := by
  simp only [nth, List.getD_eq_getElem?_getD, List.getElem?_map]
  cases xs[n]? <;> rfl
theorem nth_get {α : Type} {xs : List α} {n : Nat} {d : α} (h : n < xs.length) : nth xs n d = xs[n] := by simp [nth, List.getD_eq_getElem?_getD, h]
@[simp] theorem nth_rI (xs : List Int) (n : Nat) : nth (xs.map rI) n [.int .i64 0] = [.int .i64 (nth xs n 0)] := nth_map rI 0 xs n
theorem fits_i64 (n : Int) : fits .i64 n ↔ -9223372036854775808 ≤ n ∧ n ≤ 9223372036854775807 := by
  unfold fits
  have e : (2 : Int) ^ (IntKind.i64.bits - 1) = 9223372036854775808 := by decide
  have e' : (2 : Int) ^ IntKind.i64.bits = 18446744073709551616 := by decide
  have e2 : IntKind.i64.signed = true := rfl
  simp only [IntKind.wrap, e, e', e2, Bool.true_and, decide_eq_true_eq]
  split
  · constructor <;> intro h <;> omega
  · constructor <;> intro h <;> omega
theorem closed_int (k : IntKind) (n : Int) : Closed (.int k n) := .int k n
theorem closed_bool (b : Bool) : Closed (.bool b) := .bool b
theorem closed_rows {es : List (List AV)} (h : ∀ r ∈ es, ∀ a ∈ r, Closed a) : Closed (.view es) := .view rfl (fun i r r' h1 h2 => by rw [h1] at h2; cases h2; rfl) fun i r r' j a b h1 h2 h3 h4 => by
  rw [h1] at h2; cases h2
  rw [h3] at h4; cases h4
  exact h r (List.mem_of_getElem? h1) a (List.mem_of_getElem? h3)
theorem closed_vI (xs : List Int) : Closed (vI xs) := closed_rows fun r hr a ha => by
  simp only [List.mem_map] at hr
  obtain ⟨x, _, rfl⟩ := hr
  simp only [rI, List.mem_singleton] at ha
  subst ha
  exact .int _ _
@[simp] theorem map_rI_inj {xs ys : List Int} : xs.map rI = ys.map rI ↔ xs = ys := by
  constructor
  · intro h
    have := congrArg (fun l => unI (.view l)) h
    exact (unI_vI xs).symm.trans (this.trans (unI_vI ys))
  · intro h; rw [h]
@[simp] theorem cons_rI_inj {x : Int} {xs ys : List Int} : rI x :: xs.map rI = ys.map rI ↔ x :: xs = ys := map_rI_inj (xs := x :: xs)
@[simp] theorem unI_view (xs : List Int) : unI (.view (xs.map rI)) = xs := unI_vI xs
@[simp] theorem closed_view_rI (xs : List Int) : Closed (.view (xs.map rI)) := closed_vI xs
theorem frz_zero (H : List AObj) (x : AV) : frz 0 H x = x := rfl
theorem frz_zero' (H : List AObj) : frz 0 H = id := funext fun _ => rfl

/-- What is said with the names of a heap's front is said so with more behind it. -/
def Low (k : Nat) (a : AV) : Prop := Seen [] (fun i j => i = j ∧ i < k) a a
def LowO (k : Nat) (o : AObj) : Prop := SeenO [] (fun i j => i = j ∧ i < k) o o
theorem SeenO.mono {R R' : Nat → Nat → Prop} {a b : AObj} (h : SeenO [] R a b) (hR : ∀ i j, R i j → R' i j) : SeenO [] R' a b := by
  cases h with
  | dead => exact .dead _
  | rows hl hr h => exact .rows hl hr fun i r r' j a b h1 h2 h3 h4 => (h i r r' j a b h1 h2 h3 h4).mono hR (.inl rfl)
  | cut n hl hr h => exact .cut n hl hr fun i r r' j a b h1 h2 h3 h4 => (h i r r' j a b h1 h2 h3 h4).mono hR (.inl rfl)
  | imap hl h => exact .imap hl fun i a b h1 h2 => ⟨(h i a b h1 h2).1, (h i a b h1 h2).2.mono hR (.inl rfl)⟩
  | thing h => exact .thing h
/-- The same with more objects behind, where no new ones are left. -/
theorem Det.behind {P : Program} {f : FuncId} {H0 H1 : List AObj} {args : List AV} {x : AV} (hd : Det P f args H0 x H1) (hl : H1.length = H0.length) (ha : ∀ a ∈ args, Low H0.length a) (h0 : ∀ o ∈ H0, LowO H0.length o) (h1 : ∀ o ∈ H1, LowO H0.length o)
    (hx : Low H0.length x) (rest : List AObj) : Det P f args (H0 ++ rest) x (H1 ++ rest) := by
  have hg : ∀ (j i : Nat), (List.range H0.length)[j]? = some i ↔ i = j ∧ i < H0.length := fun j i => by
    by_cases hj : j < H0.length
    · rw [List.getElem?_range hj]
      simp only [Option.some.injEq]
      omega
    · rw [List.getElem?_eq_none (by simp; omega)]
      simp only [reduceCtorEq, false_iff]
      omega
  have hn : names (List.range H0.length) (H0 ++ rest).length (H1.length - (List.range H0.length).length) = List.range H0.length := by simp [names, hl]
  have hR : ∀ i j, i = j ∧ i < H0.length → byG (List.range H0.length) i j := fun i j ⟨e, h⟩ => (hg j i).2 ⟨e, h⟩
  have hR' : ∀ i j, i = j ∧ i < H0.length → byN (List.range H0.length) i j := fun i j ⟨e, h⟩ => (hg i j).2 ⟨e.symm, by omega⟩
  refine hd.frame (ids := List.range H0.length) ⟨by simp, fun i j k h1 h2 => ?_, fun j i h => ?_, fun j i o' h1 h2 h3 => ?_, by simp [hl], by simp [hl], fun j i o' h2 h3 h4 => ?_, fun i hi hni => ?_⟩ ⟨rfl, fun i a b h1 h2 => ?_⟩ (by rw [hn]; exact hx.mono hR' (.inl rfl))
  · have := (hg i k).1 h1; have := (hg j k).1 h2; omega
  · have := (hg j i).1 h; simp; omega
  · obtain ⟨e, hlt⟩ := (hg j i).1 h1
    subst e
    exact ⟨o', by rw [List.getElem?_append_left hlt]; exact h2, (h0 o' (List.mem_of_getElem? h2)).mono hR⟩
  · rw [hn] at h2 ⊢
    obtain ⟨e, hlt⟩ := (hg j i).1 h2
    subst e
    rw [List.getElem?_append_left (by omega)] at h3
    exact ⟨o', h3, (h1 o' (List.mem_of_getElem? h3)).mono hR'⟩
  · have hge : ¬ i < H0.length := fun h => hni i ((hg i i).2 ⟨rfl, h⟩)
    rw [List.getElem?_append_right (by omega), List.getElem?_append_right (by omega), hl]
  · rw [h1] at h2; cases h2
    exact (ha a (List.mem_of_getElem? h1)).mono hR (.inl rfl)
/-- An end that leaves the heap's front; slices of the result that lie behind it are nobody's own from then on. -/
def frpK (m : Nat) : Nat → List AObj → AV → Prop
  | 0, _, x => Closed x
  | d + 1, H, x => match x with
    | .sl id r l => m ≤ id ∧ isRows H id ∧ r + l ≤ (rowsOf H id).length ∧ ∀ row ∈ ((rowsOf H id).drop r).take l, ∀ a ∈ row, frpK m d H a
    | .nils => True
    | .tup vs => ∀ a ∈ vs, frpK m d H a
    | .agg cs => ∀ a ∈ cs, frpK m d H a
    | .ptr id r o => m ≤ id ∧ isRows H id ∧ r < (rowsOf H id).length ∧ ∀ a ∈ nth (rowsOf H id) r [], frpK m d H a
    | .fn f cs fs => (∀ a ∈ cs, Closed a) ∧ ∀ a ∈ fs, ptrQ (m ≤ ·) (frpK m d H) H a
    | x => Closed x
theorem frzK_seen {m : Nat} {R : Nat → Nat → Prop} (hR : ∀ i j, R i j → i < m) : ∀ (d : Nat) (H : List AObj) (x : AV), frpK m d H x → Seen H R x (frz d H x)
  | 0, H, x, h => Closed.seen h _ _
  | d + 1, H, x, h => by
    have cell : ∀ row : List AV, (∀ a ∈ row, frpK m d H a) → ∀ (i : Nat) (a b : AV), row[i]? = some a → (row.map (frz d H))[i]? = some b → Seen H R a b := fun row hr i a b h1 h2 => by
      simp only [List.getElem?_map, h1, Option.map_some, Option.some.injEq] at h2
      rw [← h2]
      exact frzK_seen hR d H a (hr a (List.mem_of_getElem? h1))
    cases x <;> simp only [frz, frpK] at h ⊢ <;> try exact Closed.seen h _ _
    · rename_i id r o
      obtain ⟨h0, h1, h2, h3⟩ := h
      obtain ⟨sz, rs, e, e1, e2⟩ := isRows_some h1
      rw [e1] at h2 h3 ⊢
      have e0 : nth rs r [] = rs[r] := by simp [nth, List.getD_eq_getElem?_getD, List.getElem?_eq_getElem h2]
      rw [e0] at h3 ⊢
      exact .fzp e (fun j h => by have := hR _ _ h; omega) (List.getElem?_eq_getElem h2) (by simp) (cell _ h3)
    · exact .nilv
    · rename_i id r l
      obtain ⟨h0, h1, h2, h3⟩ := h
      obtain ⟨sz, rs, e, e1, e2⟩ := isRows_some h1
      rw [e1] at h2 h3 ⊢
      refine .fz e (fun j h => by have := hR _ _ h; omega) h2 (by simp; omega) (fun i x x' hx hx' => ?_) fun i x x' j a b hx hx' ha hb => ?_
      · simp only [List.getElem?_map, Option.map_eq_some_iff] at hx'
        obtain ⟨y, hy, rfl⟩ := hx'
        rw [List.getElem?_take, List.getElem?_drop] at hy
        split at hy
        · rw [hx] at hy; cases hy; simp
        · cases hy
      · simp only [List.getElem?_map, Option.map_eq_some_iff] at hx'
        obtain ⟨y, hy, rfl⟩ := hx'
        have hy' := hy
        rw [List.getElem?_take, List.getElem?_drop] at hy
        split at hy
        · rw [hx] at hy; cases hy
          exact cell x (h3 x (List.mem_of_getElem? hy')) j a b ha hb
        · cases hy
    · exact .fn rfl (by simp) (fun i a b h1 h2 => by rw [h1] at h2; cases h2; exact Closed.seen (h.1 a (List.mem_of_getElem? h1)) _ _) (each_map fun a ha => ptrF_seen (fun i hi j h => by have := hR _ _ h; omega) (frzK_seen hR d H) (h.2 a ha))
    · rename_i cs; exact .agg (by simp) (cell cs h)
    · rename_i vs; exact .tup (by simp) (cell vs h)
def finK (m d : Nat) (rs : List IRes) (x : AV) (H' : List AObj) : Exit → AS → Prop
  | .normal, s | .ret, s => resp s rs ∧ frpK m d s.hp (one (resv s rs)) ∧ frz d s.hp (one (resv s rs)) = x ∧ ∃ rest, s.hp = H' ++ rest
  | _, _ => False
theorem range_get {k j i : Nat} : (List.range k)[j]? = some i ↔ i = j ∧ i < k := by
  by_cases hj : j < k
  · rw [List.getElem?_range hj]
    simp only [Option.some.injEq]
    omega
  · rw [List.getElem?_eq_none (by simp; omega)]
    simp only [reduceCtorEq, false_iff]
    omega
theorem Shed.front {m : Nat} {H' rest : List AObj} (hl : H'.length = m) (hlow : ∀ o ∈ H', LowO m o) : Shed m (List.range m) (H' ++ rest) H' := by
  refine ⟨by simp [hl], by simp, fun j hj => range_get.2 ⟨rfl, hj⟩, fun i j k h1 h2 => ?_, fun j i o' h1 h2 h3 => ?_⟩
  · have := range_get.1 h1; have := range_get.1 h2; omega
  · obtain ⟨e, hlt⟩ := range_get.1 h1
    subst e
    refine ⟨o', by rw [List.getElem?_append_left (by omega)]; exact h2, ?_⟩
    have := (hlow o' (List.mem_of_getElem? h2)).mono (R' := byG (List.range m)) fun i j ⟨e, h⟩ => range_get.2 ⟨e, h⟩
    cases this with
    | dead => exact .dead _
    | rows hl hr h => exact .rows hl hr fun i r r' j a b h1 h2 h3 h4 => (h i r r' j a b h1 h2 h3 h4).mono (fun _ _ h => h) (.inl rfl)
    | cut n hl hr h => exact .cut n hl hr fun i r r' j a b h1 h2 h3 h4 => (h i r r' j a b h1 h2 h3 h4).mono (fun _ _ h => h) (.inl rfl)
    | imap hl h => exact .imap hl fun i a b h1 h2 => ⟨(h i a b h1 h2).1, (h i a b h1 h2).2.mono (fun _ _ h => h) (.inl rfl)⟩
    | thing h => exact .thing h
attribute [simp] finK
attribute [simp] opds oOk allOk vcOps vcOpsD vcChain eff effO isCallO slotO depO cut stp preS valS hpS dpre dval dhp slots upd put1 ins wipe only look1 AS.ev AS.evs AV.res AV.strip gok gb gset bval isB binp binv binwp binwv fin0 finF resp resv one isNilU
@[simp] theorem lookAns_false (z : AV) (o : Option AV) : lookAns z false o = o.getD z := by cases o <;> rfl
@[simp] theorem lookAns_true (z : AV) (o : Option AV) : lookAns z true o = .tup [o.getD z, .bool o.isSome] := by cases o <;> rfl
section
variable {H : List AObj}
@[simp] theorem appP_nils (sz : Nat) (src : List (List AV)) : appP .nils H sz src = (src.length ≤ mostRows) := rfl
@[simp] theorem appP_sl (sz id r0 len : Nat) (src : List (List AV)) : appP (.sl id r0 len) H sz src = (isRows H id ∧ szOf H id = sz ∧ r0 + len = (rowsOf H id).length ∧ len + src.length ≤ mostRows) := rfl
@[simp] theorem appV_nils (src : List (List AV)) : appV .nils H src = bs H.length src := rfl
@[simp] theorem appV_sl (id r0 len : Nat) (src : List (List AV)) : appV (.sl id r0 len) H src = .sl H.length 0 (len + src.length) := rfl
@[simp] theorem appH_nils (sz : Nat) (src : List (List AV)) : appH .nils H sz src = H ++ [bob sz src] := rfl
@[simp] theorem appH_sl (sz id r0 len : Nat) (src : List (List AV)) : appH (.sl id r0 len) H sz src = H.set id .dead ++ [.rows sz ((rowsOf H id).drop r0 ++ src)] := rfl
@[simp] theorem srcp_nils : srcp H .nils = True := rfl
@[simp] theorem srcp_view (es : List (List AV)) : srcp H (.view es) = True := rfl
@[simp] theorem srcp_cv (es : List (List AV)) : srcp H (.cv es) = True := rfl
@[simp] theorem srcp_sl (id r l : Nat) : srcp H (.sl id r l) = (isRows H id ∧ r + l ≤ (rowsOf H id).length) := rfl
@[simp] theorem srcv_nils : srcv H .nils = [] := rfl
@[simp] theorem srcv_view (es : List (List AV)) : srcv H (.view es) = es := rfl
@[simp] theorem srcv_cv (es : List (List AV)) : srcv H (.cv es) = es := rfl
@[simp] theorem srcv_sl (id r l : Nat) : srcv H (.sl id r l) = ((rowsOf H id).drop r).take l := rfl
@[simp] theorem appP_cv (sz : Nat) (es src : List (List AV)) : appP (.cv es) H sz src = (src ≠ [] ∧ (∀ x ∈ es, x.length = sz) ∧ es.length + src.length ≤ mostRows) := rfl
@[simp] theorem appV_cv (es src : List (List AV)) : appV (.cv es) H src = .sl H.length 0 (es.length + src.length) := rfl
@[simp] theorem appH_cv (sz : Nat) (es src : List (List AV)) : appH (.cv es) H sz src = H ++ [.rows sz (es ++ src)] := rfl
@[simp] theorem lenP_cv (es : List (List AV)) : lenP (.cv es) H = True := rfl
@[simp] theorem lenV_cv (es : List (List AV)) : lenV (.cv es) = .int .i64 es.length := rfl
@[simp] theorem slc3P_nils (sz : Nat) (m : Int) : slc3P .nils H sz m = (m = 0) := rfl
@[simp] theorem slc3P_view (es : List (List AV)) (sz : Nat) (m : Int) : slc3P (.view es) H sz m = ((∀ y ∈ es, y.length = sz) ∧ m ≤ es.length) := rfl
@[simp] theorem slc3P_sl (id r l sz : Nat) (m : Int) : slc3P (.sl id r l) H sz m = (isRows H id ∧ szOf H id = sz ∧ m ≤ l) := rfl
@[simp] theorem slc3P_cv (es : List (List AV)) (sz : Nat) (m : Int) : slc3P (.cv es) H sz m = ((∀ y ∈ es, y.length = sz) ∧ m ≤ es.length) := rfl
@[simp] theorem slc3V_cv (es : List (List AV)) (m : Int) : slc3V (.cv es) m = .cv (es.take m.toNat) := rfl
@[simp] theorem slc3V_nils (m : Int) : slc3V .nils m = .nils := rfl
@[simp] theorem slc3V_view (es : List (List AV)) (m : Int) : slc3V (.view es) m = .cv (es.take m.toNat) := rfl
@[simp] theorem slc3V_sl (id r l : Nat) (m : Int) : slc3V (.sl id r l) m = .sl id r m.toNat := rfl
@[simp] theorem clrP_nils (sz : Nat) (z : List AV) : clrP .nils H sz z = True := rfl
@[simp] theorem clrP_view (es : List (List AV)) (sz : Nat) (z : List AV) : clrP (.view es) H sz z = (es = []) := rfl
@[simp] theorem clrP_sl (id r l sz : Nat) (z : List AV) : clrP (.sl id r l) H sz z = (isRows H id ∧ szOf H id = sz ∧ z.length = sz ∧ r + l ≤ (rowsOf H id).length) := rfl
@[simp] theorem clrH_nils (sz : Nat) (z : List AV) : clrH .nils H sz z = H := rfl
@[simp] theorem clrH_view (es : List (List AV)) (sz : Nat) (z : List AV) : clrH (.view es) H sz z = H := rfl
@[simp] theorem clrH_sl (id r l sz : Nat) (z : List AV) : clrH (.sl id r l) H sz z = H.set id (.rows sz ((rowsOf H id).take r ++ List.replicate l z ++ (rowsOf H id).drop (r + l))) := rfl
@[simp] theorem strOf_str (s : ByteArray) : strOf (.str s) = s := rfl
@[simp] theorem isStr_str (s : ByteArray) : isStr (.str s) = True := rfl
@[simp] theorem cellsL_cv (a : List (List AV)) : cellsL (.cv a) = [.cv a] := rfl
@[simp] theorem plain_cv (a : List (List AV)) : (AV.cv a).plain = true := rfl
@[simp] theorem lenP_nils : lenP .nils H = True := rfl
@[simp] theorem lenP_view (es : List (List AV)) : lenP (.view es) H = True := rfl
@[simp] theorem lenP_sl (id r0 len : Nat) : lenP (.sl id r0 len) H = live H id := rfl
@[simp] theorem lenV_nils : lenV .nils = .int .i64 0 := rfl
@[simp] theorem lenV_view (es : List (List AV)) : lenV (.view es) = .int .i64 es.length := rfl
@[simp] theorem lenV_sl (id r0 len : Nat) : lenV (.sl id r0 len) = .int .i64 len := rfl
@[simp] theorem iaP_sl (id r0 len sz : Nat) (d : List AV) (n : Int) : iaP (.sl id r0 len) H sz d n = (isRows H id ∧ szOf H id = sz ∧ 0 ≤ n ∧ n < len) := rfl
@[simp] theorem iaP_view (es : List (List AV)) (sz : Nat) (d : List AV) (n : Int) : iaP (.view es) H sz d n = (0 ≤ n ∧ n < es.length ∧ (nth es n.toNat d).length = sz) := rfl
@[simp] theorem iaP_nils (sz : Nat) (d : List AV) (n : Int) : iaP .nils H sz d n = False := rfl
@[simp] theorem iaV_sl (id r0 len : Nat) (d : List AV) (n : Int) : iaV (.sl id r0 len) d n = .ptr id (r0 + n.toNat) 0 := rfl
@[simp] theorem iaV_view (es : List (List AV)) (d : List AV) (n : Int) : iaV (.view es) d n = .vp (nth es n.toNat d) 0 := rfl
end
section
variable {m d : Nat} {H : List AObj}
@[simp] theorem frz_sl (id r l : Nat) : frz (d + 1) H (.sl id r l) = .view ((((rowsOf H id).drop r).take l).map fun row => row.map (frz d H)) := rfl
@[simp] theorem frz_nils : frz (d + 1) H .nils = .view [] := rfl
@[simp] theorem frz_tup (vs : List AV) : frz (d + 1) H (.tup vs) = .tup (vs.map (frz d H)) := rfl
@[simp] theorem frz_agg (vs : List AV) : frz (d + 1) H (.agg vs) = .agg (vs.map (frz d H)) := rfl
@[simp] theorem frz_int (k : IntKind) (n : Int) : frz d H (.int k n) = .int k n := by cases d <;> rfl
@[simp] theorem frz_bool (b : Bool) : frz d H (.bool b) = .bool b := by cases d <;> rfl
@[simp] theorem frz_view (es : List (List AV)) : frz d H (.view es) = .view es := by cases d <;> rfl
@[simp] theorem frz_cv (es : List (List AV)) : frz d H (.cv es) = .cv es := by cases d <;> rfl
@[simp] theorem frp_cv (es : List (List AV)) : frp d H (.cv es) = Closed (.cv es) := by cases d <;> rfl
@[simp] theorem frz_nilp : frz d H .nilp = .nilp := by cases d <;> rfl
@[simp] theorem frz_str (s : ByteArray) : frz d H (.str s) = .str s := by cases d <;> rfl
@[simp] theorem frp_0 (x : AV) : frp 0 H x = Closed x := rfl
@[simp] theorem frp_sl (id r l : Nat) : frp (d + 1) H (.sl id r l) = (isRows H id ∧ r + l ≤ (rowsOf H id).length ∧ ∀ row ∈ ((rowsOf H id).drop r).take l, ∀ a ∈ row, frp d H a) := rfl
@[simp] theorem frp_nils : frp (d + 1) H .nils = True := rfl
@[simp] theorem frp_tup (vs : List AV) : frp (d + 1) H (.tup vs) = ∀ a ∈ vs, frp d H a := rfl
@[simp] theorem frp_agg (vs : List AV) : frp (d + 1) H (.agg vs) = ∀ a ∈ vs, frp d H a := rfl
@[simp] theorem frp_int (k : IntKind) (n : Int) : frp d H (.int k n) := by cases d <;> exact .int _ _
@[simp] theorem frp_bool (b : Bool) : frp d H (.bool b) := by cases d <;> exact .bool _
@[simp] theorem frp_view (es : List (List AV)) : frp d H (.view es) = Closed (.view es) := by cases d <;> rfl
@[simp] theorem frp_nilp : frp d H .nilp := by cases d <;> exact .nilp
@[simp] theorem frp_str (s : ByteArray) : frp d H (.str s) := by cases d <;> exact .str _
@[simp] theorem frpK_0 (x : AV) : frpK m 0 H x = Closed x := rfl
@[simp] theorem frpK_sl (id r l : Nat) : frpK m (d + 1) H (.sl id r l) = (m ≤ id ∧ isRows H id ∧ r + l ≤ (rowsOf H id).length ∧ ∀ row ∈ ((rowsOf H id).drop r).take l, ∀ a ∈ row, frpK m d H a) := rfl
@[simp] theorem frpK_nils : frpK m (d + 1) H .nils = True := rfl
@[simp] theorem frpK_tup (vs : List AV) : frpK m (d + 1) H (.tup vs) = ∀ a ∈ vs, frpK m d H a := rfl
@[simp] theorem frpK_agg (vs : List AV) : frpK m (d + 1) H (.agg vs) = ∀ a ∈ vs, frpK m d H a := rfl
@[simp] theorem frpK_int (k : IntKind) (n : Int) : frpK m d H (.int k n) := by cases d <;> exact .int _ _
@[simp] theorem frpK_bool (b : Bool) : frpK m d H (.bool b) := by cases d <;> exact .bool _
@[simp] theorem frpK_view (es : List (List AV)) : frpK m d H (.view es) = Closed (.view es) := by cases d <;> rfl
@[simp] theorem frpK_nilp : frpK m d H .nilp := by cases d <;> exact .nilp
end
@[simp] theorem cellsL_any : cellsL .any = [.any] := rfl
@[simp] theorem cellsL_int (k : IntKind) (n : Int) : cellsL (.int k n) = [.int k n] := rfl
@[simp] theorem cellsL_bool (b : Bool) : cellsL (.bool b) = [.bool b] := rfl
@[simp] theorem cellsL_str (b : ByteArray) : cellsL (.str b) = [.str b] := rfl
@[simp] theorem cellsL_val (b : Value) : cellsL (.val b) = [.val b] := rfl
@[simp] theorem cellsL_nilp : cellsL .nilp = [.nilp] := rfl
@[simp] theorem cellsL_nils : cellsL .nils = [.nils] := rfl
@[simp] theorem cellsL_nilm : cellsL .nilm = [.nilm] := rfl
@[simp] theorem cellsL_ptr (a b c : Nat) : cellsL (.ptr a b c) = [.ptr a b c] := rfl
@[simp] theorem cellsL_vp (a : List AV) (b : Nat) : cellsL (.vp a b) = [.vp a b] := rfl
@[simp] theorem cellsL_sl (a b c : Nat) : cellsL (.sl a b c) = [.sl a b c] := rfl
@[simp] theorem cellsL_view (a : List (List AV)) : cellsL (.view a) = [.view a] := rfl
@[simp] theorem cellsL_map (a : Nat) : cellsL (.map a) = [.map a] := rfl
@[simp] theorem cellsL_fn (f : FuncId) (a b : List AV) : cellsL (.fn f a b) = [.fn f a b] := rfl
@[simp] theorem cellsL_agg (a : List AV) : cellsL (.agg a) = a := rfl
@[simp] theorem cellsL_tup (a : List AV) : cellsL (.tup a) = [.tup a] := rfl
@[simp] theorem cellsL_opt (c : Bool) (a : AV) : cellsL (.opt c a) = [.opt c a] := rfl
@[simp] theorem plain_bool (b : Bool) : (AV.bool b).plain = true := rfl
@[simp] theorem plain_int (k : IntKind) (n : Int) : (AV.int k n).plain = true := rfl
@[simp] theorem plain_str (s : ByteArray) : (AV.str s).plain = true := rfl
@[simp] theorem plain_val (v : Value) : (AV.val v).plain = v.oneCell' := rfl
@[simp] theorem plain_nilp : AV.nilp.plain = true := rfl
@[simp] theorem plain_nils : AV.nils.plain = true := rfl
@[simp] theorem plain_nilm : AV.nilm.plain = true := rfl
@[simp] theorem plain_ptr (a b c : Nat) : (AV.ptr a b c).plain = true := rfl
@[simp] theorem plain_vp (a : List AV) (b : Nat) : (AV.vp a b).plain = true := rfl
@[simp] theorem plain_sl (a b c : Nat) : (AV.sl a b c).plain = true := rfl
@[simp] theorem plain_view (a : List (List AV)) : (AV.view a).plain = true := rfl
@[simp] theorem plain_map (a : Nat) : (AV.map a).plain = true := rfl
@[simp] theorem plain_fn (f : FuncId) (a b : List AV) : (AV.fn f a b).plain = true := rfl
@[simp] theorem plain_agg (a : List AV) : (AV.agg a).plain = false := rfl
@[simp] theorem plain_tup (a : List AV) : (AV.tup a).plain = false := rfl
@[simp] theorem plain_any : AV.any.plain = false := rfl
@[simp] theorem plain_opt (c : Bool) (a : AV) : (AV.opt c a).plain = false := rfl
@[simp] theorem isRowsO_rows (sz : Nat) (rs : List (List AV)) : isRowsO (some (.rows sz rs)) = True := rfl
@[simp] theorem rowsO_rows (sz : Nat) (rs : List (List AV)) : rowsO (some (.rows sz rs)) = rs := rfl
@[simp] theorem szO_rows (sz : Nat) (rs : List (List AV)) : szO (some (.rows sz rs)) = sz := rfl
@[simp] theorem liveO_rows (sz : Nat) (rs : List (List AV)) : liveO (some (.rows sz rs)) = True := rfl
@[simp] theorem liveO_imap (es : List (Int × AV)) : liveO (some (.imap es)) = True := rfl
@[simp] theorem isRowsO_imap (es : List (Int × AV)) : isRowsO (some (.imap es)) = False := rfl
@[simp] theorem rowsO_imap (es : List (Int × AV)) : rowsO (some (.imap es)) = [] := rfl
@[simp] theorem liveO_thing {τ : Type} (x : τ) (R : Env → Loc → Prop) : liveO (some (.thing x R)) = True := rfl
@[simp] theorem isRowsO_thing {τ : Type} (x : τ) (R : Env → Loc → Prop) : isRowsO (some (.thing x R)) = False := rfl
@[simp] theorem rowsO_thing {τ : Type} (x : τ) (R : Env → Loc → Prop) : rowsO (some (.thing x R)) = [] := rfl
@[simp] theorem isRowsO_dead : isRowsO (some .dead) = False := rfl
@[simp] theorem rowsO_dead : rowsO (some .dead) = [] := rfl
@[simp] theorem liveO_dead : liveO (some .dead) = False := rfl
@[simp] theorem isRowsO_none : isRowsO none = False := rfl
@[simp] theorem rowsO_none : rowsO none = [] := rfl
@[simp] theorem liveO_none : liveO none = False := rfl
attribute [simp] numOf isNum loOf loIs rdd rdp rowsOf szOf isRows isMap mapOf live fits_i64 vI_inj unI_vI frz_zero frz_zero' closed_int closed_bool closed_vI vI eqv eqp fillv FillOk Γof pureC noCtr undefAV
end Go.Proofs.Ytnjpfoblmomnlaa.Sx
