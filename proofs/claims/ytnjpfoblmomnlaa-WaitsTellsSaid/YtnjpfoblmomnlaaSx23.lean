/- Slices that a loop appends to; more values. No conditions: a kit of our own. -/
import Derived.Test.YtnjpfoblmomnlaaSx20
namespace Go.Proofs.Ytnjpfoblmomnlaa.Sx
open Go Go.RowKit
set_option linter.unusedVariables false
set_option linter.unusedSimpArgs false

/-- Names that lead nowhere, ahead of objects. -/
def deads (n : Nat) (t : List AObj) : List AObj := List.replicate n .dead ++ t
theorem deads_get (n : Nat) (b : AObj) (t : List AObj) : (deads n (b :: t))[n]? = some b := by
  unfold deads
  rw [List.getElem?_append_right (by simp)]
  simp
theorem deads_getE (n : Nat) (b : AObj) (t : List AObj) (h : n < (deads n (b :: t)).length) : (deads n (b :: t))[n] = b := by
  have := deads_get n b t
  rw [List.getElem?_eq_getElem h] at this
  exact Option.some.inj this
theorem deads_set (n : Nat) (b c : AObj) (t : List AObj) : (deads n (b :: t)).set n c = deads n (c :: t) := by
  unfold deads
  rw [List.set_append_right _ _ (by simp)]
  simp
theorem deads_app (n : Nat) (t u : List AObj) : deads n t ++ u = deads n (t ++ u) := by simp [deads]
theorem deads_len (n : Nat) (t : List AObj) : (deads n t).length = n + t.length := by simp [deads]
theorem deads_dead (n : Nat) (t : List AObj) : deads n (.dead :: t) = deads (n + 1) t := by
  unfold deads
  rw [List.replicate_succ']
  simp
/-- A slice that a loop appends to, by its rows: the heap behind m objects, and the slice. -/
def junk (sz : Nat) : List (List AV) → List AObj
  | [] => []
  | r :: rs => deads rs.length [.rows sz (r :: rs)]
def bsl (m : Nat) : List (List AV) → AV
  | [] => .nils
  | r :: rs => .sl (rs.length + m) 0 (rs.length + 1)
@[simp] theorem junk_nil (sz : Nat) : junk sz [] = [] := rfl
@[simp] theorem junk_cons (sz : Nat) (r : List AV) (rs : List (List AV)) : junk sz (r :: rs) = deads rs.length [.rows sz (r :: rs)] := rfl
@[simp] theorem bsl_nil (m : Nat) : bsl m [] = .nils := rfl
@[simp] theorem bsl_cons (m : Nat) (r : List AV) (rs : List (List AV)) : bsl m (r :: rs) = .sl (rs.length + m) 0 (rs.length + 1) := rfl
@[simp] theorem deads_zero (t : List AObj) : deads 0 t = t := rfl
@[simp] theorem take_map_len {α β : Type} (f : α → β) (l : List α) : List.take l.length (l.map f) = l.map f := List.take_of_length_le (by simp)
@[simp] theorem map_same {α β : Type} (f : α → β) (l : List α) : List.map ((fun c => c) ∘ f) l = l.map f := rfl
@[simp] theorem over_nil (l : List AV) : over l 0 [] = l := by simp [over]
@[simp] theorem over_cons0 (x c : AV) (l cs : List AV) : over (x :: l) 0 (c :: cs) = c :: over l 0 cs := by simp [over]
@[simp] theorem over_succ (x : AV) (l cs : List AV) (n : Nat) : over (x :: l) (n + 1) cs = x :: over l n cs := by simp [over, Nat.add_right_comm]
/-- A list of numbers. -/
def isI (a : AV) : Prop := a = .view ((unI a).map rI)
@[simp] theorem isI_view (xs : List Int) : isI (.view (xs.map rI)) := by unfold isI; rw [unI_view]
@[simp] theorem unI_nil : unI (.view []) = [] := rfl
@[simp] theorem unI_cons (x : Int) (es : List (List AV)) : unI (.view ([.int .i64 x] :: es)) = x :: unI (.view es) := rfl
@[simp] theorem unI_consr (x : Int) (es : List (List AV)) : unI (.view (rI x :: es)) = x :: unI (.view es) := rfl
@[simp] theorem isI_nil : isI (.view []) := rfl
@[simp] theorem isI_cons (x : Int) (es : List (List AV)) : isI (.view ([.int .i64 x] :: es)) = isI (.view es) := by simp [isI, rI]
@[simp] theorem isI_consr (x : Int) (es : List (List AV)) : isI (.view (rI x :: es)) = isI (.view es) := by simp [isI]
@[simp] theorem rI_length (x : Int) : (rI x).length = 1 := rfl
@[simp] theorem take_map_len1 {α β : Type} (f : α → β) (l : List α) (y : β) : List.take (l.length + 1) (l.map f ++ [y]) = l.map f ++ [y] := List.take_of_length_le (by simp)
@[simp] theorem mostRows_eq : mostRows = 1073741824 := rfl
@[simp] theorem mem_rI {a : AV} {x : Int} : a ∈ rI x ↔ a = .int .i64 x := by simp [rI]
attribute [simp] deads_get deads_getE deads_set deads_app deads_len deads_dead
end Go.Proofs.Ytnjpfoblmomnlaa.Sx
/- Loops whose rounds leave objects that nobody names any more. No conditions: a kit of our own. -/
namespace Go.Proofs.Ytnjpfoblmomnlaa.Sx
open Go Go.RowKit
set_option linter.unusedVariables false
set_option linter.unusedSimpArgs false

/-- Slots told of as they are, or nil slices as slices of nothing. -/
def seenTm : List (Nat × AV) → List (Nat × AV) → Prop
  | [], [] => True
  | (k, v) :: l, (k', v') :: l' => k = k' ∧ (v = v' ∨ (v = .nils ∧ v' = .view [])) ∧ seenTm l l'
  | _, _ => False
def lowTm (k : Nat) (tm : List (Nat × AV)) : Prop := ∀ p ∈ tm, Low k p.2
theorem Shed.le {m m' : Nat} {g : List Nat} {H H' : List AObj} (h : Shed m g H H') (hm : m' ≤ m) : Shed m' g H H' := ⟨h.len, Nat.le_trans hm h.low, fun j hj => h.keep j (by omega), h.nodup, h.obj⟩
theorem seenTm_look {k : Nat} {H : List AObj} : ∀ {tm tm' : List (Nat × AV)}, seenTm tm tm' → lowTm k tm' → ∀ i, Seen H (byG (List.range k)) (look1 tm i) (look1 tm' i)
  | [], [], _, _, i => .any _
  | (n, v) :: l, (n', v') :: l', h, hl, i => by
    obtain ⟨rfl, h1, h2⟩ := h
    simp only [look1]
    split
    · rcases h1 with rfl | ⟨rfl, rfl⟩
      · exact (hl (n, v) (by simp)).mono (fun i j ⟨e, h⟩ => range_get.2 ⟨e, h⟩) (.inl rfl)
      · exact .nilv
    · exact seenTm_look h2 (fun p hp => hl p (by simp [hp])) i
  | [], _ :: _, h, _, i => h.elim
  | _ :: _, [], h, _, i => h.elim
theorem weakF {m : Nat} {tm : List (Nat × AV)} {s' : AS} {rest : List AObj} (hm : m ≤ s'.hp.length) (h1 : seenTm tm s'.tm) (h2 : lowTm s'.hp.length s'.tm) (h3 : ∀ o ∈ s'.hp, LowO s'.hp.length o) : Weak m ⟨tm, s'.hp ++ rest⟩ s' :=
  Shed.weak (g := List.range s'.hp.length) ((Shed.front rfl h3).le hm) (seenTm_look h1 h2)

section
variable {Γ : FuncId → Ctr} {m : Nat} {keep : List Nat} {Q : Exit → AS → Prop} {s : AS}
def headF {α : Type _} (keep : List Nat) (st : α → AS) (inv : α → Prop) (b : α) (s2 : AS) : Prop := seenTm (only s2.tm keep) (st b).tm ∧ (∃ rest, s2.hp = (st b).hp ++ rest) ∧ inv b
theorem headF.weak {α : Type _} {st : α → AS} {inv : α → Prop} {b : α} {s2 : AS} (h : headF keep st inv b s2) (hm : m ≤ (st b).hp.length) (hl : inv b → lowTm (st b).hp.length (st b).tm ∧ ∀ o ∈ (st b).hp, LowO (st b).hp.length o) : Weak m ⟨only s2.tm keep, s2.hp⟩ (st b) := by
  obtain ⟨h1, ⟨rest, h2⟩, h3⟩ := h
  rw [h2]
  exact weakF hm h1 (hl h3).1 (hl h3).2
end
theorem lowTm_nil (k : Nat) : lowTm k [] := fun p h => by simp at h
theorem lowTm_cons {k n : Nat} {v : AV} {l : List (Nat × AV)} (h : Low k v) (t : lowTm k l) : lowTm k ((n, v) :: l) := fun p hp => by
  rcases List.mem_cons.1 hp with rfl | hp
  · exact h
  · exact t p hp
attribute [simp] seenTm
end Go.Proofs.Ytnjpfoblmomnlaa.Sx
/- Loops at whose head objects, too, are told of less: a nil slice in a cell as a slice of nothing. No conditions: a kit of our own. -/
namespace Go.Proofs.Ytnjpfoblmomnlaa.Sx
open Go Go.RowKit
set_option linter.unusedVariables false
set_option linter.unusedSimpArgs false

def seen1 (v v' : AV) : Prop := v = v' ∨ (v = .nils ∧ v' = .view [])
def seenL : List AV → List AV → Prop
  | [], [] => True
  | v :: l, v' :: l' => seen1 v v' ∧ seenL l l'
  | _, _ => False
def seenRs : List (List AV) → List (List AV) → Prop
  | [], [] => True
  | r :: l, r' :: l' => seenL r r' ∧ seenRs l l'
  | _, _ => False
def seenOb (o o' : AObj) : Prop := o = o' ∨ ∃ sz rs rs', o = .rows sz rs ∧ o' = .rows sz rs' ∧ seenRs rs rs'
theorem seenL_at : ∀ {r r' : List AV}, seenL r r' → r'.length = r.length ∧ ∀ (j : Nat) a b, r[j]? = some a → r'[j]? = some b → seen1 a b
  | [], [], _ => ⟨rfl, fun j a b h => by simp at h⟩
  | v :: l, v' :: l', h => by
    obtain ⟨h1, h2⟩ := h
    obtain ⟨h3, h4⟩ := seenL_at h2
    refine ⟨by simp [h3], fun j a b ha hb => ?_⟩
    cases j with
    | zero => simp at ha hb; subst ha; subst hb; exact h1
    | succ j => exact h4 j a b (by simpa using ha) (by simpa using hb)
  | [], _ :: _, h => h.elim
  | _ :: _, [], h => h.elim
theorem seenRs_at : ∀ {r r' : List (List AV)}, seenRs r r' → r'.length = r.length ∧ ∀ (j : Nat) a b, r[j]? = some a → r'[j]? = some b → seenL a b
  | [], [], _ => ⟨rfl, fun j a b h => by simp at h⟩
  | v :: l, v' :: l', h => by
    obtain ⟨h1, h2⟩ := h
    obtain ⟨h3, h4⟩ := seenRs_at h2
    refine ⟨by simp [h3], fun j a b ha hb => ?_⟩
    cases j with
    | zero => simp at ha hb; subst ha; subst hb; exact h1
    | succ j => exact h4 j a b (by simpa using ha) (by simpa using hb)
  | [], _ :: _, h => h.elim
  | _ :: _, [], h => h.elim
theorem seen1_seen {k : Nat} {H : List AObj} {a b : AV} (h : seen1 a b) (hl : Low k b) : Seen H (byG (List.range k)) a b := by
  rcases h with rfl | ⟨rfl, rfl⟩
  · exact hl.mono (fun i j ⟨e, h⟩ => range_get.2 ⟨e, h⟩) (.inl rfl)
  · exact .nilv
theorem LowO.cell {k sz : Nat} {rs : List (List AV)} (h : LowO k (.rows sz rs)) {i : Nat} {r : List AV} {j : Nat} {a : AV} (hi : rs[i]? = some r) (hj : r[j]? = some a) : Low k a := by
  cases h with
  | rows hl hr h => exact h i r r j a a hi hi hj hj
  | cut n hl hr h =>
    have e : rs.take n = rs := List.take_of_length_le (by simp at hl; omega)
    rw [e] at h
    exact h i r r j a a hi hi hj hj
theorem Shed.frontG {m : Nat} {F H' rest : List AObj} (hl : F.length = H'.length) (hm : H'.length = m) (hs : ∀ (j : Nat) o o', F[j]? = some o → H'[j]? = some o' → seenOb o o') (hlow : ∀ o ∈ H', LowO m o) : Shed m (List.range m) (F ++ rest) H' := by
  refine ⟨by simp [hm], by simp, fun j hj => range_get.2 ⟨rfl, hj⟩, fun i j k h1 h2 => ?_, fun j i o' h1 h2 h3 => ?_⟩
  · have := range_get.1 h1; have := range_get.1 h2; omega
  · obtain ⟨e, hlt⟩ := range_get.1 h1
    subst e
    have hF : F[i]? = some (F[i]'(by omega)) := List.getElem?_eq_getElem (by omega)
    refine ⟨_, by rw [List.getElem?_append_left (by omega)]; exact hF, ?_⟩
    have hlo := hlow o' (List.mem_of_getElem? h2)
    rcases hs i _ o' hF h2 with e | ⟨sz, rs, rs', e, e', hr⟩
    · rw [e]
      cases hlo with
      | dead => exact .dead _
      | rows hl hr h => exact .rows hl hr fun i r r' j a b h1 h2 h3 h4 => (h i r r' j a b h1 h2 h3 h4).mono (fun i j ⟨e, h⟩ => range_get.2 ⟨e, h⟩) (.inl rfl)
      | cut n hl hr h => exact .cut n hl hr fun i r r' j a b h1 h2 h3 h4 => (h i r r' j a b h1 h2 h3 h4).mono (fun i j ⟨e, h⟩ => range_get.2 ⟨e, h⟩) (.inl rfl)
      | imap hl h => exact .imap hl fun i a b h1 h2 => ⟨(h i a b h1 h2).1, (h i a b h1 h2).2.mono (fun i j ⟨e, h⟩ => range_get.2 ⟨e, h⟩) (.inl rfl)⟩
      | thing h => exact .thing h
    · rw [e, e']
      subst e'
      obtain ⟨k1, k2⟩ := seenRs_at hr
      refine .rows k1 (fun i r r' h1 h2 => (seenL_at (k2 i r r' h1 h2)).1) fun i r r' j a b h1 h2 h3 h4 => ?_
      exact seen1_seen ((seenL_at (k2 i r r' h1 h2)).2 j a b h3 h4) (hlo.cell h2 h4)
/-- As seenTm, of objects, one by one. -/
def seenH : List AObj → List AObj → Prop
  | _, [] => True
  | o :: l, o' :: l' => seenOb o o' ∧ seenH l l'
  | [], _ :: _ => False
theorem seenH_split : ∀ {H H' : List AObj}, seenH H H' → ∃ F rest, H = F ++ rest ∧ F.length = H'.length ∧ ∀ (j : Nat) o o', F[j]? = some o → H'[j]? = some o' → seenOb o o'
  | H, [], _ => ⟨[], H, rfl, rfl, fun j o o' h => by simp at h⟩
  | o :: l, o' :: l', h => by
    obtain ⟨h1, h2⟩ := h
    obtain ⟨F, rest, e, hl, hs⟩ := seenH_split h2
    refine ⟨o :: F, rest, by rw [e]; rfl, by simp [hl], fun j p p' hp hp' => ?_⟩
    cases j with
    | zero => simp at hp hp'; subst hp; subst hp'; exact h1
    | succ j => exact hs j p p' (by simpa using hp) (by simpa using hp')
  | [], _ :: _, h => h.elim
theorem weakG {m : Nat} {tm : List (Nat × AV)} {H : List AObj} {s' : AS} (hm : m ≤ s'.hp.length) (h0 : seenH H s'.hp) (h1 : seenTm tm s'.tm) (h2 : lowTm s'.hp.length s'.tm) (h3 : ∀ o ∈ s'.hp, LowO s'.hp.length o) : Weak m ⟨tm, H⟩ s' := by
  obtain ⟨F, rest, e, hl, hs⟩ := seenH_split h0
  subst e
  exact Shed.weak (g := List.range s'.hp.length) ((Shed.frontG hl rfl hs h3).le hm) (seenTm_look h1 h2)
section
variable {Γ : FuncId → Ctr} {m : Nat} {keep : List Nat} {Q : Exit → AS → Prop} {s : AS}
def headG {α : Type _} (keep : List Nat) (st : α → AS) (inv : α → Prop) (b : α) (s2 : AS) : Prop := seenTm (only s2.tm keep) (st b).tm ∧ seenH s2.hp (st b).hp ∧ inv b
def nextG {α : Type _} (keep : List Nat) (st : α → AS) (inv : α → Prop) (μ : α → Nat) (a : α) (s2 : AS) : Prop := ∃ b, μ b < μ a ∧ headG keep st inv b s2
theorem headG.weak {α : Type _} {st : α → AS} {inv : α → Prop} {b : α} {s2 : AS} (h : headG keep st inv b s2) (hm : m ≤ (st b).hp.length) (hl : inv b → lowTm (st b).hp.length (st b).tm ∧ ∀ o ∈ (st b).hp, LowO (st b).hp.length o) : Weak m ⟨only s2.tm keep, s2.hp⟩ (st b) :=
  weakG hm h.2.1 h.1 (hl h.2.2).1 (hl h.2.2).2
theorem LoopC.byG {c : ICode} {α : Type _} (st : α → AS) (inv : α → Prop) (μ : α → Nat) (a0 : α) (hm : ∀ b, m ≤ (st b).hp.length) (hl : ∀ b, inv b → lowTm (st b).hp.length (st b).tm ∧ ∀ o ∈ (st b).hp, LowO (st b).hp.length o)
    (h0 : headG keep st inv a0 s) (h : ∀ a, inv a → vc Γ m c (thn (nextG keep st inv μ a) Q) (st a)) : LoopC Γ m keep c Q s := by
  refine ⟨fun n s' => ∃ a, s' = st a ∧ inv a ∧ μ a = n, ⟨μ a0, _, h0.weak (hm a0) (hl a0), a0, rfl, h0.2.2, rfl⟩, fun n s' ⟨a, e, hi, hn⟩ => ?_⟩
  subst e
  subst hn
  refine vc_mono c (thn_mono (fun s2 h => ?_) fun _ _ h => h) (h a hi)
  obtain ⟨b, h1, h2⟩ := h
  exact ⟨μ b, _, h1, h2.weak (hm b) (hl b), b, rfl, h2.2.2, rfl⟩
end
theorem seenH_refl : ∀ (H rest : List AObj), seenH (H ++ rest) H
  | [], rest => by cases rest <;> trivial
  | o :: l, rest => ⟨.inl rfl, seenH_refl l rest⟩
end Go.Proofs.Ytnjpfoblmomnlaa.Sx
