/- A writer of bytes. No conditions: a kit of our own. -/
import Derived.Test.YtnckibgcjgeekaaGreatTy9
namespace Go.Proofs.YtnckibgcjgeekaaGreat.Sx
open Go Go.RowKit
set_option linter.unusedVariables false
set_option linter.unusedSimpArgs false

structure Wr where
  B : List (BitVec 8)
  deriving DecidableEq
abbrev Wr.P : Type := (List (BitVec 8)) × Unit
def Wr.to (x : Wr) : Wr.P := (x.B, ())
def Wr.of (y : Wr.P) : Wr := ⟨y.1⟩
instance : Cel Wr := Cel.iso Wr.to Wr.of (fun _ => rfl) (fun _ => rfl)
instance : Rd Wr := Rd.struct Wr.to Wr.of (fun _ => rfl) (fun _ => rfl) rfl
@[simp] theorem wf_Wr (x : Wr) : Rd.wf x = (Rd.wf x.B) := by
  show (Rd.wf x.B ∧ True) = _
  simp
def Wr.zero : Wr := ⟨[]⟩
instance : Inhabited Wr := ⟨Wr.zero⟩
@[simp] theorem default_Wr : (default : Wr) = Wr.zero := rfl
@[simp] theorem c_Wr (x : Wr) : Cel.c x = [.view (x.B.map Cel.c)] := rfl
@[simp] theorem en_Wr (x : Wr) : en x = .agg [.view (x.B.map Cel.c)] := rfl
@[simp] theorem agg_Wr : Cel.agg Wr = true := rfl
@[simp] theorem u_Wr (H : List AObj) (a0 : AV) : Cel.u (α := Wr) H [a0] = ⟨Cel.u H [a0]⟩ := rfl
@[simp] theorem ok_Wr (H : List AObj) (a0 : AV) : Cel.ok (α := Wr) H [a0] = (Cel.ok (α := List (BitVec 8)) H [a0]) := by
  show (Cel.ok (α := List (BitVec 8)) H [a0] ∧ ([] : List AV) = []) = _
  simp
@[simp high] theorem okc_Wr (H : List AObj) (x : Wr) : Cel.ok (α := Wr) H [.view (x.B.map Cel.c)] := Cel.ok_c H x
@[simp] theorem eta_Wr (x : Wr) : Wr.mk x.B = x := rfl
@[simp] theorem nth_Wr (xs : List Wr) (n : Nat) : nth (xs.map Cel.c) n [.view []] = Cel.c (nth xs n Wr.zero) := nth_c rfl
end Go.Proofs.YtnckibgcjgeekaaGreat.Sx
/- A method that is handed pointers into another object of one's own, or a closure over the method's own object. No conditions: a kit of our own. -/
namespace Go.Proofs.YtnckibgcjgeekaaGreat.Sx
open Go Go.RowKit
set_option linter.unusedVariables false
set_option linter.unusedSimpArgs false

/-- The end of a method that fills another object's row. -/
def finN {σ : Type} [Cel σ] (y : σ) (sz : Nat) (cs : List AV) : Exit → AS → Prop
  | .normal, s | .ret, s => isRows s.hp 0 ∧ szOf s.hp 0 = Cel.n σ ∧ (rowsOf s.hp 0).length = 1 ∧ Cel.ok (α := σ) [] (nth (rowsOf s.hp 0) 0 []) ∧ Cel.u (α := σ) [] (nth (rowsOf s.hp 0) 0 []) = y ∧ s.hp[1]? = some (.rows sz [cs])
  | _, _ => False
attribute [simp] finN
theorem seenO_rows1 {H : List AObj} {R : Nat → Nat → Prop} {sz : Nat} {cs : List AV} (h : allC Closed cs) : SeenO H R (.rows sz [cs]) (.rows sz [cs]) := .rows rfl (fun i r r' h1 h2 => by rw [h1] at h2; cases h2; rfl) fun i r r' j a b h1 h2 h3 h4 => by
  rw [h1] at h2; cases h2
  rw [h3] at h4; cases h4
  match i with
  | 0 => simp at h1; subst h1; exact Closed.seen (h a (List.mem_of_getElem? h3)) _ _
  | i + 1 => simp at h1
theorem det_finN {P : Program} {Γ : FuncId → Ctr} (hmix : P.follows .mixedOrders = true) (hG : Knows P Γ) {f : FuncId} {ic : ICode} {nt : Nat} (hf : fnOk P f ic [] nt = true) {args : List AV} {σ : Type} [Cel σ] {y0 y : σ} {sz : Nat} {cs0 cs : List AV} (hn : args.length ≤ nt) (hc : allC Closed cs)
    (h : vc Γ 2 ic (finN y sz cs) ⟨slots 0 args, [.rows (Cel.n σ) [Cel.c y0], .rows sz [cs0]]⟩) : Det P f args [.rows (Cel.n σ) [Cel.c y0], .rows sz [cs0]] (.tup []) [.rows (Cel.n σ) [Cel.c y], .rows sz [cs]] := acall_of_vcQ hmix hG hf hn h fun e s h => by
  have key : finN y sz cs .normal s → fin 2 [] (fun z h => z = .tup [] ∧ h = [.rows (Cel.n σ) [Cel.c y], .rows sz [cs]]) .normal s := fun ⟨h3, h4, h5, h6, h7, h8⟩ =>
    ⟨trivial, .tup [], _, by
      rw [← h7]
      refine Shed.weakR (g := [0, 1]) ⟨rfl, Nat.le_refl _, fun j h => ?_, fun i j k hi hj => ?_, fun j i o' hj ho _ => ?_⟩ (.tup rfl fun i a b h1 h2 => by simp at h2)
      · match j, h with
        | 0, _ => rfl
        | 1, _ => rfl
        | j + 2, h => omega
      · match i, j with
        | 0, 0 => rfl
        | 1, 1 => rfl
        | 0, 1 => simp at hi hj; omega
        | 1, 0 => simp at hi hj; omega
        | i + 2, _ => simp at hi
        | 0, j + 2 => simp at hj
        | 1, j + 2 => simp at hj
      · match j with
        | 0 =>
          simp at hj ho
          subst hj
          subst ho
          exact seenO_row h3 h4 h5 h6 s.hp
        | 1 =>
          simp at hj ho
          subst hj
          subst ho
          exact ⟨_, h8, seenO_rows1 hc⟩
        | j + 2 => simp at hj, rfl, rfl⟩
  cases e <;> first | exact h.elim | exact key h

/-- The object that a list of pointers points into. -/
def nidx : List (List AV) → Nat
  | [.ptr i _ _] :: _ => i
  | _ => 0
def noff : List AV → Nat
  | [.ptr _ _ o] => o
  | _ => 0
def ptrsTo (j : Nat) (offs : List Nat) : List (List AV) := offs.map fun o => [.ptr j 0 o]
def okPtrs (i sz : Nat) : List (List AV) → Prop
  | [] => True
  | r :: l => r = [.ptr i 0 (noff r)] ∧ noff r < sz ∧ okPtrs i sz l
@[simp] theorem nidx_cons (i r o : Nat) (l : List (List AV)) : nidx ([.ptr i r o] :: l) = i := rfl
@[simp] theorem noff_one (i r o : Nat) : noff [.ptr i r o] = o := rfl
attribute [simp] okPtrs
theorem okPtrs_all : ∀ {i sz : Nat} {rows : List (List AV)}, okPtrs i sz rows → rows = ptrsTo i (rows.map noff) ∧ ∀ o ∈ rows.map noff, o < sz
  | _, _, [], _ => ⟨rfl, by simp⟩
  | i, sz, r :: l, h => by
    obtain ⟨h1, h2, h3⟩ := h
    obtain ⟨g1, g2⟩ := okPtrs_all h3
    refine ⟨?_, fun o ho => ?_⟩
    · simp only [List.map_cons, ptrsTo] at g1 ⊢
      rw [← g1, ← h1]
    · rcases List.mem_cons.1 ho with rfl | ho
      · exact h2
      · exact g2 o ho
theorem low_ptrsTo {k j : Nat} (h : j < k) (offs : List Nat) : Low k (.view (ptrsTo j offs)) := .view rfl (fun i r r' h1 h2 => by rw [h1] at h2; cases h2; rfl) fun i r r' n a b h1 h2 h3 h4 => by
  rw [h1] at h2; cases h2
  rw [h3] at h4; cases h4
  have := List.mem_of_getElem? h1
  simp only [ptrsTo, List.mem_map] at this
  obtain ⟨o, _, rfl⟩ := this
  match n with
  | 0 => simp at h3; subst h3; exact .ptr ⟨rfl, h⟩
  | n + 1 => simp at h3
/-- The contract: the numbers of an object's reader come into the places of another one. -/
def fillP (σ : Type) [Cel σ] (pre : σ → Prop) (H : List AObj) : AV → List (List AV) → Prop
  | .ptr id r o, rows => (mP σ H (.ptr id r o) ∧ pre (mV σ H (.ptr id r o))) ∧ id ≠ nidx rows ∧ (isRows H (nidx rows) ∧ (rowsOf H (nidx rows)).length = 1) ∧ allC Closed (nth (rowsOf H (nidx rows)) 0 []) ∧ rows.length ≤ 1000 ∧ okPtrs (nidx rows) (nth (rowsOf H (nidx rows)) 0 []).length rows
  | _, _ => False
def N9 {σ : Type} [Cel σ] (pre : σ → Prop) (S : σ → Nat → σ) (C : σ → List AV → List Nat → List AV) : Ctr := ⟨fun a H => match a with
  | [a, .view rows] => fillP σ pre H a rows
  | _ => False, fun a H => .tup [], fun a H => match a with
  | [a, .view rows] => (mH H (S (mV σ H a) rows.length) a).set (nidx rows) (.rows (szOf H (nidx rows)) [C (mV σ H a) (nth (rowsOf H (nidx rows)) 0 []) (rows.map noff)])
  | _ => H⟩
section
variable {σ : Type} [Cel σ] (pre : σ → Prop) (S : σ → Nat → σ) (C : σ → List AV → List Nat → List AV)
@[simp] theorem N9_pre (id r o : Nat) (rows : List (List AV)) (H : List AObj) : (N9 pre S C).pre [.ptr id r o, .view rows] H = ((mP σ H (.ptr id r o) ∧ pre (mV σ H (.ptr id r o))) ∧ id ≠ nidx rows ∧ (isRows H (nidx rows) ∧ (rowsOf H (nidx rows)).length = 1) ∧ allC Closed (nth (rowsOf H (nidx rows)) 0 []) ∧ rows.length ≤ 1000 ∧ okPtrs (nidx rows) (nth (rowsOf H (nidx rows)) 0 []).length rows) := rfl
@[simp] theorem N9_val (a : List AV) (H : List AObj) : (N9 pre S C).val a H = .tup [] := rfl
@[simp] theorem N9_hp (a : AV) (rows : List (List AV)) (H : List AObj) : (N9 pre S C).hp [a, .view rows] H = (mH H (S (mV σ H a) rows.length) a).set (nidx rows) (.rows (szOf H (nidx rows)) [C (mV σ H a) (nth (rowsOf H (nidx rows)) 0 []) (rows.map noff)]) := rfl
end
theorem one_row {H : List AObj} {id : Nat} (h1 : isRows H id) (h3 : (rowsOf H id).length = 1) : H[id]? = some (.rows (szOf H id) [nth (rowsOf H id) 0 []]) := by
  obtain ⟨sz, rs, e, e1, e2⟩ := isRows_some h1
  rw [e1] at h3 ⊢
  rw [e2]
  match rs, h3 with
  | [row], _ => exact e
theorem known_N9 {P : Program} {f : FuncId} {σ : Type} [Cel σ] {pre : σ → Prop} {S : σ → Nat → σ} {C : σ → List AV → List Nat → List AV} (hC : ∀ s cs offs, allC Closed cs → allC Closed (C s cs offs))
    (h : ∀ s sz cs offs, offs.length ≤ 1000 → pre s → allC Closed cs → (∀ o ∈ offs, o < cs.length) → Det P f [.ptr 0 0 0, .view (ptrsTo 1 offs)] [.rows (Cel.n σ) [Cel.c s], .rows sz [cs]] (.tup []) [.rows (Cel.n σ) [Cel.c (S s offs.length)], .rows sz [C s cs offs]]) : Known P f (N9 pre S C) := fun args H hp => by
  obtain ⟨id, r, o, rows, rfl⟩ : ∃ id r o rows, args = [.ptr id r o, .view rows] := by
    rcases args with _ | ⟨a, _ | ⟨b, _ | ⟨c, l⟩⟩⟩
    · exact (hp : False).elim
    · exact (hp : False).elim
    · cases b <;> first | exact (hp : False).elim | skip
      cases a <;> first | exact (hp : False).elim | exact ⟨_, _, _, _, rfl⟩
    · cases b <;> exact (hp : False).elim
  · obtain ⟨⟨⟨⟨rfl, rfl⟩, h1, h2, h3, h4⟩, hq⟩, hne, ⟨k1, k2⟩, hcl, hbig, hok⟩ := hp
    obtain ⟨er, hlt⟩ := okPtrs_all hok
    have hl1 : id < H.length := by
      obtain ⟨sz, rs, e, _⟩ := isRows_some h1
      exact (List.getElem?_eq_some_iff.1 e).1
    have hl2 : nidx rows < H.length := by
      obtain ⟨sz, rs, e, _⟩ := isRows_some k1
      exact (List.getElem?_eq_some_iff.1 e).1
    have hd := h _ (szOf H (nidx rows)) _ (rows.map noff) (by rw [List.length_map]; exact hbig) hq hcl hlt
    have ho := one_row k1 k2
    generalize hJ : nidx rows = J at *
    simp only [N9_hp, N9_val, mV_ptr, mH_ptr, hJ]
    simp only [mV_ptr, List.length_map] at hd
    have nm : names [id, J] H.length 0 = [id, J] := by simp [names]
    refine hd.frame (ids := [id, J]) (H := H) ⟨rfl, fun i j k hi hj => ?_, fun j i h => ?_, fun j i o' hj ho' _ => ?_, by simp, by simp, fun j i o' hj ho' hne' => ?_, fun i hi hn => ?_⟩ (each_cons (.ptr rfl) (each_cons ?_ each_nil)) (.tup rfl fun i a b h1 h2 => by simp at h1)
    · match i, j with
      | 0, 0 => rfl
      | 1, 1 => rfl
      | 0, 1 => simp at hi hj; omega
      | 1, 0 => simp at hi hj; omega
      | i + 2, _ => simp at hi
      | 0, j + 2 => simp at hj
      | 1, j + 2 => simp at hj
    · match j with
      | 0 => simp at h; omega
      | 1 => simp at h; omega
      | j + 2 => simp at h
    · match j with
      | 0 =>
        simp at hj ho'; subst hj; subst ho'
        exact seenO_row h1 h2 h3 h4 []
      | 1 =>
        simp at hj ho'; subst hj; subst ho'
        exact ⟨_, ho, seenO_rows1 hcl⟩
      | j + 2 => simp at hj
    · simp only [List.length_cons, List.length_nil, Nat.sub_self, nm] at hj ⊢
      match j with
      | 0 =>
        simp at hj; subst hj
        rw [List.getElem?_set_ne (by omega), List.getElem?_set_self hl1] at ho'
        simp at ho'; subst ho'
        exact ⟨_, rfl, seenO_rows1 fun a ha => Cel.closed _ a ha⟩
      | 1 =>
        simp at hj; subst hj
        rw [List.getElem?_set_self (by simp; exact hl2)] at ho'
        simp at ho'; subst ho'
        exact ⟨_, rfl, seenO_rows1 (hC _ _ _ hcl)⟩
      | j + 2 => simp at hj
    · have h1 : i ≠ id := fun e => hn 0 (by simp [e])
      have h2 : i ≠ J := fun e => hn 1 (by simp [e])
      rw [List.getElem?_set_ne (by omega), List.getElem?_set_ne (by omega)]
    · rw [er]
      refine .view (by simp [ptrsTo]) (fun i r r' h1 h2 => ?_) fun i r r' n a b h1 h2 h3 h4 => ?_
      · simp [ptrsTo] at h1 h2
        obtain ⟨o1, e1, rfl⟩ := h1
        obtain ⟨o2, e2, rfl⟩ := h2
        rfl
      · simp [ptrsTo] at h1 h2
        obtain ⟨o1, e1, rfl⟩ := h1
        obtain ⟨o2, e2, rfl⟩ := h2
        rw [e1] at e2; cases e2
        match n with
        | 0 => simp at h3 h4; subst h3; subst h4; exact .ptr (by simp [byG])
        | n + 1 => simp at h3
/-- A method that is handed a closure of a method over the same object. -/
def L9 {σ : Type} [Cel σ] (g : FuncId) (pre : σ → Prop) (S : σ → σ) (F : σ → AV) : Ctr := ⟨fun a H => match a with
  | [a, .fn f [b] []] => (f = g ∧ b = a) ∧ mP σ H a ∧ pre (mV σ H a)
  | _ => False, fun a H => match a with
  | [a, _] => F (mV σ H a)
  | _ => .any, fun a H => match a with
  | [a, _] => mH H (S (mV σ H a)) a
  | _ => H⟩
section
variable {σ : Type} [Cel σ] (g : FuncId) (pre : σ → Prop) (S : σ → σ) (F : σ → AV)
@[simp] theorem L9_pre (f : FuncId) (a b : AV) (H : List AObj) : (L9 g pre S F).pre [a, .fn f [b] []] H = ((f = g ∧ b = a) ∧ mP σ H a ∧ pre (mV σ H a)) := rfl
@[simp] theorem L9_val (a b : AV) (H : List AObj) : (L9 g pre S F).val [a, b] H = F (mV σ H a) := rfl
@[simp] theorem L9_hp (a b : AV) (H : List AObj) : (L9 g pre S F).hp [a, b] H = mH H (S (mV σ H a)) a := rfl
end
theorem known_L9 {P : Program} {f g : FuncId} {σ : Type} [Cel σ] {pre : σ → Prop} {S : σ → σ} {F : σ → AV} (h : ∀ s, pre s → Det P f [.ptr 0 0 0, .fn g [.ptr 0 0 0] []] [.rows (Cel.n σ) [Cel.c s]] (F s) [.rows (Cel.n σ) [Cel.c (S s)]]) (hx : ∀ s, pre s → Closed (F s)) : Known P f (L9 g pre S F) := fun args H hp => by
  obtain ⟨a, k, b, rfl⟩ : ∃ a k b, args = [a, .fn k [b] []] := by
    rcases args with _ | ⟨a, _ | ⟨q, _ | ⟨c, l⟩⟩⟩
    · exact (hp : False).elim
    · exact (hp : False).elim
    · cases q <;> first | exact (hp : False).elim | skip
      rename_i k cs fs
      rcases cs with _ | ⟨b, _ | ⟨c, l⟩⟩ <;> cases fs <;> first | exact (hp : False).elim | exact ⟨_, _, _, rfl⟩
    · cases q <;> first | exact (hp : False).elim | skip
      rename_i k cs fs
      rcases cs with _ | ⟨b, _ | ⟨c, l⟩⟩ <;> cases fs <;> exact (hp : False).elim
  · obtain ⟨⟨rfl, rfl⟩, hp, hq⟩ := hp
    match b, hp with
    | .ptr id r o, hp =>
      obtain ⟨⟨rfl, rfl⟩, h1, h2, h3, h4⟩ := hp
      have hlt : id < H.length := by
        obtain ⟨sz, rs, e, _⟩ := isRows_some h1
        exact (List.getElem?_eq_some_iff.1 e).1
      have hd := h _ hq
      simp only [L9_val, L9_hp, mV_ptr, mH_ptr] at hd ⊢
      have nm : names [id] H.length 0 = [id] := by simp [names]
      refine hd.frame (ids := [id]) (H := H) ⟨rfl, fun i j k hi hj => ?_, fun j i h => ?_, fun j i o' hj ho _ => ?_, by simp, by simp, fun j i o' hj ho hne => ?_, fun i hi hn => ?_⟩ (each_cons (.ptr rfl) (each_cons (.fn rfl rfl (fun i a b h1 h2 => ?_) fun i a b h1 h2 => by simp at h1) each_nil)) ((hx _ hq).seen _ _)
      · match i, j with
        | 0, 0 => rfl
        | i + 1, _ => simp at hi
        | 0, j + 1 => simp at hj
      · match j with
        | 0 => simp at h; omega
        | j + 1 => simp at h
      · match j with
        | 0 =>
          simp at hj ho; subst hj; subst ho
          exact seenO_row h1 h2 h3 h4 []
        | j + 1 => simp at hj
      · simp only [List.length_cons, List.length_nil, Nat.sub_self, nm] at hj ⊢
        match j with
        | 0 =>
          simp at hj; subst hj
          rw [List.getElem?_set_self hlt] at ho
          simp at ho; subst ho
          exact ⟨_, rfl, seenO_rows1 fun a ha => Cel.closed _ a ha⟩
        | j + 1 => simp at hj
      · have : i ≠ id := fun e => hn 0 (by simp [e])
        rw [List.getElem?_set_ne (by omega)]
      · match i with
        | 0 => simp at h1 h2; subst h1; subst h2; exact .ptr rfl
        | i + 1 => simp at h1
end Go.Proofs.YtnckibgcjgeekaaGreat.Sx
