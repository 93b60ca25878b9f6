/- Methods on one object of one's own ('M'): what they do to it, and what they give. No conditions: a kit of our own. -/
import Derived.Test.YtaimhgmakgbfaaaTy7
namespace Go.Proofs.Ytaimhgmakgbfaaa.Sx
open Go Go.RowKit
set_option linter.unusedVariables false
set_option linter.unusedSimpArgs false

/-- The end of a method: the object comes to y, the result's memory freezes. -/
def finM {σ : Type} [Cel σ] (d : Nat) (rs : List IRes) (x : AV) (y : σ) : Exit → AS → Prop
  | .normal, s | .ret, s => resp s rs ∧ frpK 1 d s.hp (one (resv s rs)) ∧ frz d s.hp (one (resv s rs)) = x ∧ isRows s.hp 0 ∧ szOf s.hp 0 = Cel.n σ ∧ (rowsOf s.hp 0).length = 1 ∧ Cel.ok (α := σ) [] (nth (rowsOf s.hp 0) 0 []) ∧ Cel.u (α := σ) [] (nth (rowsOf s.hp 0) 0 []) = y
  | _, _ => False
attribute [simp] finM
theorem seenO_row {σ : Type} [Cel σ] {R : Nat → Nat → Prop} {H : List AObj} {id : Nat} (h1 : isRows H id) (h2 : szOf H id = Cel.n σ) (h3 : (rowsOf H id).length = 1) (h4 : Cel.ok (α := σ) [] (nth (rowsOf H id) 0 [])) (H' : List AObj) : ∃ o, H[id]? = some o ∧ SeenO H' R o (.rows (Cel.n σ) [Cel.c (Cel.u (α := σ) [] (nth (rowsOf H id) 0 []))]) := by
  obtain ⟨sz, rs, e, e1, e2⟩ := isRows_some h1
  rw [e1] at h3 h4 ⊢
  rw [e2] at h2
  subst h2
  obtain ⟨row, rfl⟩ : ∃ row, rs = [row] := by
    match rs, h3 with
    | [row], _ => exact ⟨row, rfl⟩
  simp only [nth_zero] at h4 ⊢
  have hs := Cel.seen _ _ h4
  refine ⟨_, e, .rows rfl (fun i r r' ha hb => ?_) fun i r r' j a b ha hb hc hd => ?_⟩
  · match i with
    | 0 => simp at ha hb; subst ha; subst hb; exact hs.1
    | i + 1 => simp at ha
  · match i with
    | 0 =>
      simp at ha hb; subst ha; subst hb
      exact (hs.2 j a b hc hd).mono (fun _ _ h => h.elim) (.inl rfl)
    | i + 1 => simp at ha
theorem det_finM {P : Program} {Γ : FuncId → Ctr} (hmix : P.follows .mixedOrders = true) (hG : Knows P Γ) {f : FuncId} {ic : ICode} {rs : List IRes} {nt : Nat} (hf : fnOk P f ic rs nt = true) {args : List AV} {x : AV} {σ : Type} [Cel σ] {y0 y : σ} (d : Nat) (hn : args.length ≤ nt)
    (h : vc Γ 1 ic (finM d rs x y) ⟨slots 0 args, [.rows (Cel.n σ) [Cel.c y0]]⟩) : Det P f args [.rows (Cel.n σ) [Cel.c y0]] x [.rows (Cel.n σ) [Cel.c y]] := acall_of_vcQ hmix hG hf hn h fun e s h => by
  have key : finM d rs x y .normal s → fin 1 rs (fun z h => z = x ∧ h = [.rows (Cel.n σ) [Cel.c y]]) .normal s := fun ⟨h1, h2, h3, h4, h5, h6, h7, h8⟩ =>
    ⟨h1, x, _, by
      rw [← h3, ← h8]
      refine Shed.weakR (g := [0]) ⟨rfl, Nat.le_refl _, fun j h => ?_, fun i j k hi hj => ?_, fun j i o' hj ho _ => ?_⟩ (frzK_seen (m := 1) (fun i j h => ?_) d _ _ h2)
      · have : j = 0 := by omega
        subst this; rfl
      · match i, j with
        | 0, 0 => rfl
        | i + 1, _ => simp at hi
        | 0, j + 1 => simp at hj
      · match j with
        | 0 =>
          simp at hj ho
          subst hj
          subst ho
          exact seenO_row h4 h5 h6 h7 s.hp
        | j + 1 => simp at hj
      · match j with
        | 0 => simp [byG] at h; omega
        | j + 1 => simp [byG] at h, rfl, rfl⟩
  cases e <;> first | exact h.elim | exact key h

/-- The object's row. -/
def mP (σ : Type) [Cel σ] (H : List AObj) : AV → Prop
  | .ptr id r o => (r = 0 ∧ o = 0) ∧ isRows H id ∧ szOf H id = Cel.n σ ∧ (rowsOf H id).length = 1 ∧ Cel.ok (α := σ) [] (nth (rowsOf H id) 0 [])
  | _ => False
def mV (σ : Type) [Cel σ] (H : List AObj) : AV → σ
  | .ptr id r o => Cel.u [] (nth (rowsOf H id) 0 [])
  | _ => Cel.u [] []
def mH {σ : Type} [Cel σ] (H : List AObj) (y : σ) : AV → List AObj
  | .ptr id r o => H.set id (.rows (Cel.n σ) [Cel.c y])
  | _ => H
section
variable {σ : Type} [Cel σ]
@[simp] theorem mP_ptr (H : List AObj) (id r o : Nat) : mP σ H (.ptr id r o) = ((r = 0 ∧ o = 0) ∧ isRows H id ∧ szOf H id = Cel.n σ ∧ (rowsOf H id).length = 1 ∧ Cel.ok (α := σ) [] (nth (rowsOf H id) 0 [])) := rfl
@[simp] theorem mV_ptr (H : List AObj) (id r o : Nat) : mV σ H (.ptr id r o) = Cel.u [] (nth (rowsOf H id) 0 []) := rfl
@[simp] theorem mH_ptr (H : List AObj) (y : σ) (id r o : Nat) : mH H y (.ptr id r o) = H.set id (.rows (Cel.n σ) [Cel.c y]) := rfl
end
theorem Det.meth {P : Program} {f : FuncId} {σ : Type} [Cel σ] {args args0 : List AV} {x : AV} {y : σ} {H : List AObj} {a : AV} (hp : mP σ H a)
    (hd : Det P f (.ptr 0 0 0 :: args0) [.rows (Cel.n σ) [Cel.c (mV σ H a)]] x [.rows (Cel.n σ) [Cel.c y]]) (ha : Each (Seen [] (fun _ _ => False)) args args0) (hx : Closed x) : Det P f (a :: args) H x (mH H y a) := by
  match a, hp with
  | .ptr id r o, hp =>
    obtain ⟨⟨rfl, rfl⟩, h1, h2, h3, h4⟩ := hp
    have hlt : id < H.length := by
      obtain ⟨sz, rs, e, _⟩ := isRows_some h1
      exact (List.getElem?_eq_some_iff.1 e).1
    simp only [mV_ptr, mH_ptr] at hd ⊢
    have nm : names [id] H.length 0 = [id] := by simp [names]
    refine hd.frame (ids := [id]) (H := H) ⟨rfl, fun i j k hi hj => ?_, fun j i h => ?_, fun j i o' hj ho _ => ?_, by simp, by simp, fun j i o' hj ho hne => ?_, fun i hi hn => ?_⟩ (each_cons (.ptr ?_) ⟨ha.1, fun i a b h1 h2 => ?_⟩) (hx.seen _ _)
    · match i, j with
      | 0, 0 => rfl
      | i + 1, _ => simp at hi
      | 0, j + 1 => simp at hj
    · match j with
      | 0 => simp at h; omega
      | j + 1 => simp at h
    · match j with
      | 0 =>
        simp at hj ho; subst hj; subst ho
        exact seenO_row h1 h2 h3 h4 []
      | j + 1 => simp at hj
    · simp only [List.length_cons, List.length_nil, Nat.sub_self, nm] at hj ⊢
      match j with
      | 0 =>
        simp at hj; subst hj
        rw [List.getElem?_set_self hlt] at ho
        simp at ho; subst ho
        refine ⟨_, rfl, .rows rfl (fun i r r' ha hb => ?_) fun i r r' j a b ha hb hc hd => ?_⟩
        · match i with
          | 0 => simp at ha hb; subst ha; subst hb; rfl
          | i + 1 => simp at ha
        · match i with
          | 0 =>
            simp at ha hb; subst ha; subst hb
            rw [hc] at hd; cases hd
            exact Closed.seen (Cel.closed y a (List.mem_of_getElem? hc)) _ _
          | i + 1 => simp at ha
      | j + 1 => simp at hj
    · have : i ≠ id := fun e => hn 0 (by simp [e])
      rw [List.getElem?_set_ne (by omega)]
    · simp [byG]
    · exact (ha.2 i a b h1 h2).mono (fun _ _ h => h.elim) (.inl rfl)

/-- A method's contract: what it does to the object, what it gives. -/
def M0 {σ : Type} [Cel σ] (pre : σ → Prop) (S : σ → σ) (F : σ → AV) : Ctr := ⟨fun a H => match a with
  | [a] => mP σ H a ∧ pre (mV σ H a)
  | _ => False, fun a H => match a with
  | [a] => F (mV σ H a)
  | _ => .any, fun a H => match a with
  | [a] => mH H (S (mV σ H a)) a
  | _ => H⟩
@[simp] theorem M0_pre {σ : Type} [Cel σ] (pre : σ → Prop) (S : σ → σ) (F : σ → AV) (a : AV) (H : List AObj) : (M0 pre S F).pre [a] H = (mP σ H a ∧ pre (mV σ H a)) := rfl
@[simp] theorem M0_val {σ : Type} [Cel σ] (pre : σ → Prop) (S : σ → σ) (F : σ → AV) (a : AV) (H : List AObj) : (M0 pre S F).val [a] H = F (mV σ H a) := rfl
@[simp] theorem M0_hp {σ : Type} [Cel σ] (pre : σ → Prop) (S : σ → σ) (F : σ → AV) (a : AV) (H : List AObj) : (M0 pre S F).hp [a] H = mH H (S (mV σ H a)) a := rfl
theorem known_M0 {P : Program} {f : FuncId} {σ : Type} [Cel σ] {pre : σ → Prop} {S : σ → σ} {F : σ → AV} (h : ∀ s, pre s → Det P f [.ptr 0 0 0] [.rows (Cel.n σ) [Cel.c s]] (F s) [.rows (Cel.n σ) [Cel.c (S s)]]) (hc : ∀ s, pre s → Closed (F s)) : Known P f (M0 pre S F) := fun args H hp => by
  match args, hp with
  | [a], hp => exact Det.meth hp.1 (h _ hp.2) each_nil (hc _ hp.2)
def M1 {σ α1 : Type} [Cel σ] [Cel α1] (pre : σ → α1 → Prop) (S : σ → α1 → σ) (F : σ → α1 → AV) : Ctr := ⟨fun a H => match a with
  | [a, b] => (mP σ H a ∧ okA α1 [] b) ∧ pre (mV σ H a) (de α1 [] b)
  | _ => False, fun a H => match a with
  | [a, b] => F (mV σ H a) (de α1 [] b)
  | _ => .any, fun a H => match a with
  | [a, b] => mH H (S (mV σ H a) (de α1 [] b)) a
  | _ => H⟩
@[simp] theorem M1_pre {σ α1 : Type} [Cel σ] [Cel α1] (pre : σ → α1 → Prop) (S : σ → α1 → σ) (F : σ → α1 → AV) (a b : AV) (H : List AObj) : (M1 pre S F).pre [a, b] H = ((mP σ H a ∧ okA α1 [] b) ∧ pre (mV σ H a) (de α1 [] b)) := rfl
@[simp] theorem M1_val {σ α1 : Type} [Cel σ] [Cel α1] (pre : σ → α1 → Prop) (S : σ → α1 → σ) (F : σ → α1 → AV) (a b : AV) (H : List AObj) : (M1 pre S F).val [a, b] H = F (mV σ H a) (de α1 [] b) := rfl
@[simp] theorem M1_hp {σ α1 : Type} [Cel σ] [Cel α1] (pre : σ → α1 → Prop) (S : σ → α1 → σ) (F : σ → α1 → AV) (a b : AV) (H : List AObj) : (M1 pre S F).hp [a, b] H = mH H (S (mV σ H a) (de α1 [] b)) a := rfl
theorem known_M1 {P : Program} {f : FuncId} {σ α1 : Type} [Cel σ] [Cel α1] {pre : σ → α1 → Prop} {S : σ → α1 → σ} {F : σ → α1 → AV} (h : ∀ s x, pre s x → Det P f [.ptr 0 0 0, en x] [.rows (Cel.n σ) [Cel.c s]] (F s x) [.rows (Cel.n σ) [Cel.c (S s x)]]) (hc : ∀ s x, pre s x → Closed (F s x)) : Known P f (M1 pre S F) := fun args H hp => by
  match args, hp with
  | [a, b], hp => exact Det.meth hp.1.1 (h _ _ hp.2) (each_cons (okA_seen hp.1.2) each_nil) (hc _ _ hp.2)
def M2 {σ α1 α2 : Type} [Cel σ] [Cel α1] [Cel α2] (pre : σ → α1 → α2 → Prop) (S : σ → α1 → α2 → σ) (F : σ → α1 → α2 → AV) : Ctr := ⟨fun a H => match a with
  | [a, b, c] => (mP σ H a ∧ okA α1 [] b ∧ okA α2 [] c) ∧ pre (mV σ H a) (de α1 [] b) (de α2 [] c)
  | _ => False, fun a H => match a with
  | [a, b, c] => F (mV σ H a) (de α1 [] b) (de α2 [] c)
  | _ => .any, fun a H => match a with
  | [a, b, c] => mH H (S (mV σ H a) (de α1 [] b) (de α2 [] c)) a
  | _ => H⟩
@[simp] theorem M2_pre {σ α1 α2 : Type} [Cel σ] [Cel α1] [Cel α2] (pre : σ → α1 → α2 → Prop) (S : σ → α1 → α2 → σ) (F : σ → α1 → α2 → AV) (a b c : AV) (H : List AObj) : (M2 pre S F).pre [a, b, c] H = ((mP σ H a ∧ okA α1 [] b ∧ okA α2 [] c) ∧ pre (mV σ H a) (de α1 [] b) (de α2 [] c)) := rfl
@[simp] theorem M2_val {σ α1 α2 : Type} [Cel σ] [Cel α1] [Cel α2] (pre : σ → α1 → α2 → Prop) (S : σ → α1 → α2 → σ) (F : σ → α1 → α2 → AV) (a b c : AV) (H : List AObj) : (M2 pre S F).val [a, b, c] H = F (mV σ H a) (de α1 [] b) (de α2 [] c) := rfl
@[simp] theorem M2_hp {σ α1 α2 : Type} [Cel σ] [Cel α1] [Cel α2] (pre : σ → α1 → α2 → Prop) (S : σ → α1 → α2 → σ) (F : σ → α1 → α2 → AV) (a b c : AV) (H : List AObj) : (M2 pre S F).hp [a, b, c] H = mH H (S (mV σ H a) (de α1 [] b) (de α2 [] c)) a := rfl
theorem known_M2 {P : Program} {f : FuncId} {σ α1 α2 : Type} [Cel σ] [Cel α1] [Cel α2] {pre : σ → α1 → α2 → Prop} {S : σ → α1 → α2 → σ} {F : σ → α1 → α2 → AV} (h : ∀ s x y, pre s x y → Det P f [.ptr 0 0 0, en x, en y] [.rows (Cel.n σ) [Cel.c s]] (F s x y) [.rows (Cel.n σ) [Cel.c (S s x y)]]) (hc : ∀ s x y, pre s x y → Closed (F s x y)) : Known P f (M2 pre S F) := fun args H hp => by
  match args, hp with
  | [a, b, c], hp => exact Det.meth hp.1.1 (h _ _ _ hp.2) (each_cons (okA_seen hp.1.2.1) (each_cons (okA_seen hp.1.2.2) each_nil)) (hc _ _ _ hp.2)

/-! ### a pure function that is handed one's own memory for good ('K') -/
def alld (H : List AObj) : List AObj := H.map fun _ => .dead
@[simp] theorem alld_len (H : List AObj) : (alld H).length = H.length := by simp [alld]
@[simp] theorem alld_cons (o : AObj) (H : List AObj) : alld (o :: H) = .dead :: alld H := rfl
@[simp] theorem alld_nil : alld [] = [] := rfl
theorem alld_get {H : List AObj} {i : Nat} {o : AObj} (h : (alld H)[i]? = some o) : o = .dead := by
  simp [alld] at h; exact h.2.symm
theorem Det.hand {P : Program} {f : FuncId} {args args0 : List AV} {x : AV} {H : List AObj} (hd : Det P f args0 [] x []) (ha : Each (Seen H (fun _ _ => False)) args args0) (h0 : ∀ a ∈ args0, Closed a) (hx : Closed x) : Det P f args H x (alld H) := by
  have hd := hd.pure h0 hx (alld H)
  obtain ⟨hc, hd⟩ := hd
  refine ⟨hc, fun E vs hH hv => ?_⟩
  let E0 : Env := ⟨E.w, fun _ => none, E.n, E.x⟩
  have fr : ∀ b, E.free b → E0.free b := fun b hb => ⟨hb.1, fun id l h => (by cases h), hb.2.2⟩
  have own : ∀ i l, E.s i = some l → E0.free l.b := fun i l h => ⟨hH.own_lt h, fun id l h => (by cases h), hH.apart i l h⟩
  have oth : Other H (fun _ _ => False) E E0 := ⟨rfl, fr, fun i j h => h.elim, .inr hH, .inr fun i l h _ => own i l h⟩
  have hH0 : HRel E0 (alld H) := ⟨by rw [alld_len]; exact hH.n, fun id l h => (by cases h), fun id o h hne => absurd (alld_get h) hne, fun i j li lj h => (by cases h), fun id l h => (by cases h), hH.xlt⟩
  have hv0 : VRels E0 args0 vs := ⟨by rw [hv.len, ha.1], fun i a v h1 h2 => by
    obtain ⟨b, hb⟩ := get_of_len ha.1 h1
    exact (ha.2 i b a hb h1).rel oth v (hv.at_ i b v hb h2)⟩
  refine (hd E0 vs hH0 hv0).mono fun e w' hr => ?_
  obtain ⟨v, E0', r, H1', he, hw, hrv, hH1, hext, hr1, hr2⟩ := hr
  refine ⟨v, E0', r, H1', he, hw, hrv, hH1, ⟨hext.os, hext.tape, hext.output, hext.size, fun b hb => hext.keep b (fr b hb), fun id l hi hl => ?_, hext.room, ?_, hext.x, hext.keepx⟩, hr1, hr2⟩
  · have := hext.ids id l (by rw [alld_len]; exact hi) hl
    cases this
  · have := hext.m
    rw [alld_len] at this
    exact this
/-- A contract: one's own memory is not one's own afterwards. -/
def K2 {α0 α1 : Type} [Cel α0] [Cel α1] (pre : α0 → α1 → Prop) (F : α0 → α1 → AV) : Ctr := ⟨fun a H => match a with
  | [a0, a1] => (okA α0 H a0 ∧ okA α1 H a1) ∧ pre (de α0 H a0) (de α1 H a1)
  | _ => False, fun a H => match a with
  | [a0, a1] => F (de α0 H a0) (de α1 H a1)
  | _ => .any, fun _ H => alld H⟩
@[simp] theorem K2_pre {α0 α1 : Type} [Cel α0] [Cel α1] (pre : α0 → α1 → Prop) (F : α0 → α1 → AV) (a0 a1 : AV) (H : List AObj) : (K2 pre F).pre [a0, a1] H = ((okA α0 H a0 ∧ okA α1 H a1) ∧ pre (de α0 H a0) (de α1 H a1)) := rfl
@[simp] theorem K2_val {α0 α1 : Type} [Cel α0] [Cel α1] (pre : α0 → α1 → Prop) (F : α0 → α1 → AV) (a0 a1 : AV) (H : List AObj) : (K2 pre F).val [a0, a1] H = F (de α0 H a0) (de α1 H a1) := rfl
@[simp] theorem K2_hp {α0 α1 : Type} [Cel α0] [Cel α1] (pre : α0 → α1 → Prop) (F : α0 → α1 → AV) (a : List AV) (H : List AObj) : (K2 pre F).hp a H = alld H := rfl
theorem known_K2 {P : Program} {f : FuncId} {α0 α1 : Type} [Cel α0] [Cel α1] {pre : α0 → α1 → Prop} {F : α0 → α1 → AV} (h : ∀ x0 x1, pre x0 x1 → Det P f [en x0, en x1] [] (F x0 x1) []) (hc : ∀ x0 x1, pre x0 x1 → Closed (F x0 x1)) : Known P f (K2 pre F) := fun args H hp0 => by
  match args, hp0 with
  | [a0, a1], hp0 =>
    obtain ⟨⟨h0, h1⟩, hp⟩ := hp0
    exact Det.hand (h _ _ hp) (each_cons (okA_seen h0) (each_cons (okA_seen h1) each_nil)) (by simp [closed_en]) (hc _ _ hp)
def K1 {α0 : Type} [Cel α0] (pre : α0 → Prop) (F : α0 → AV) : Ctr := ⟨fun a H => match a with
  | [a0] => (okA α0 H a0) ∧ pre (de α0 H a0)
  | _ => False, fun a H => match a with
  | [a0] => F (de α0 H a0)
  | _ => .any, fun _ H => alld H⟩
@[simp] theorem K1_pre {α0 : Type} [Cel α0] (pre : α0 → Prop) (F : α0 → AV) (a0 : AV) (H : List AObj) : (K1 pre F).pre [a0] H = ((okA α0 H a0) ∧ pre (de α0 H a0)) := rfl
@[simp] theorem K1_val {α0 : Type} [Cel α0] (pre : α0 → Prop) (F : α0 → AV) (a0 : AV) (H : List AObj) : (K1 pre F).val [a0] H = F (de α0 H a0) := rfl
@[simp] theorem K1_hp {α0 : Type} [Cel α0] (pre : α0 → Prop) (F : α0 → AV) (a : List AV) (H : List AObj) : (K1 pre F).hp a H = alld H := rfl
theorem known_K1 {P : Program} {f : FuncId} {α0 : Type} [Cel α0] {pre : α0 → Prop} {F : α0 → AV} (h : ∀ x0, pre x0 → Det P f [en x0] [] (F x0) []) (hc : ∀ x0, pre x0 → Closed (F x0)) : Known P f (K1 pre F) := fun args H hp0 => by
  match args, hp0 with
  | [a0], hp0 =>
    obtain ⟨h0, hp⟩ := hp0
    exact Det.hand (h _ hp) (each_cons (okA_seen h0) each_nil) (by simp [closed_en]) (hc _ hp)
end Go.Proofs.Ytaimhgmakgbfaaa.Sx
