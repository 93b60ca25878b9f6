/- Loops at whose head objects, too, are told of less: a nil slice in a cell as a slice of nothing. No conditions: a kit of our own. -/
import Derived.Test.YtaimhgmakgbfaaaSx22
namespace Go.Proofs.Ytaimhgmakgbfaaa.Sx
open Go Go.RowKit
set_option linter.unusedVariables false
set_option linter.unusedSimpArgs false

def seen1 (v v' : AV) : Prop := v = v' ∨ (v = .nils ∧ v' = .view [])
def seenL : List AV → List AV → Prop
  | [], [] => True
  | v :: l, v' :: l' => seen1 v v' ∧ seenL l l'
  | _, _ => False
def seenRs : List (List AV) → List (List AV) → Prop
  | [], [] => True
  | r :: l, r' :: l' => seenL r r' ∧ seenRs l l'
  | _, _ => False
def seenOb (o o' : AObj) : Prop := o = o' ∨ ∃ sz rs rs', o = .rows sz rs ∧ o' = .rows sz rs' ∧ seenRs rs rs'
theorem seenL_at : ∀ {r r' : List AV}, seenL r r' → r'.length = r.length ∧ ∀ (j : Nat) a b, r[j]? = some a → r'[j]? = some b → seen1 a b
  | [], [], _ => ⟨rfl, fun j a b h => by simp at h⟩
  | v :: l, v' :: l', h => by
    obtain ⟨h1, h2⟩ := h
    obtain ⟨h3, h4⟩ := seenL_at h2
    refine ⟨by simp [h3], fun j a b ha hb => ?_⟩
    cases j with
    | zero => simp at ha hb; subst ha; subst hb; exact h1
    | succ j => exact h4 j a b (by simpa using ha) (by simpa using hb)
  | [], _ :: _, h => h.elim
  | _ :: _, [], h => h.elim
theorem seenRs_at : ∀ {r r' : List (List AV)}, seenRs r r' → r'.length = r.length ∧ ∀ (j : Nat) a b, r[j]? = some a → r'[j]? = some b → seenL a b
  | [], [], _ => ⟨rfl, fun j a b h => by simp at h⟩
  | v :: l, v' :: l', h => by
    obtain ⟨h1, h2⟩ := h
    obtain ⟨h3, h4⟩ := seenRs_at h2
    refine ⟨by simp [h3], fun j a b ha hb => ?_⟩
    cases j with
    | zero => simp at ha hb; subst ha; subst hb; exact h1
    | succ j => exact h4 j a b (by simpa using ha) (by simpa using hb)
  | [], _ :: _, h => h.elim
  | _ :: _, [], h => h.elim
theorem seen1_seen {k : Nat} {H : List AObj} {a b : AV} (h : seen1 a b) (hl : Low k b) : Seen H (byG (List.range k)) a b := by
  rcases h with rfl | ⟨rfl, rfl⟩
  · exact hl.mono (fun i j ⟨e, h⟩ => range_get.2 ⟨e, h⟩) (.inl rfl)
  · exact .nilv
theorem LowO.cell {k sz : Nat} {rs : List (List AV)} (h : LowO k (.rows sz rs)) {i : Nat} {r : List AV} {j : Nat} {a : AV} (hi : rs[i]? = some r) (hj : r[j]? = some a) : Low k a := by
  cases h with
  | rows hl hr h => exact h i r r j a a hi hi hj hj
  | cut n hl hr h =>
    have e : rs.take n = rs := List.take_of_length_le (by simp at hl; omega)
    rw [e] at h
    exact h i r r j a a hi hi hj hj
theorem Shed.frontG {m : Nat} {F H' rest : List AObj} (hl : F.length = H'.length) (hm : H'.length = m) (hs : ∀ (j : Nat) o o', F[j]? = some o → H'[j]? = some o' → seenOb o o') (hlow : ∀ o ∈ H', LowO m o) : Shed m (List.range m) (F ++ rest) H' := by
  refine ⟨by simp [hm], by simp, fun j hj => range_get.2 ⟨rfl, hj⟩, fun i j k h1 h2 => ?_, fun j i o' h1 h2 h3 => ?_⟩
  · have := range_get.1 h1; have := range_get.1 h2; omega
  · obtain ⟨e, hlt⟩ := range_get.1 h1
    subst e
    have hF : F[i]? = some (F[i]'(by omega)) := List.getElem?_eq_getElem (by omega)
    refine ⟨_, by rw [List.getElem?_append_left (by omega)]; exact hF, ?_⟩
    have hlo := hlow o' (List.mem_of_getElem? h2)
    rcases hs i _ o' hF h2 with e | ⟨sz, rs, rs', e, e', hr⟩
    · rw [e]
      cases hlo with
      | dead => exact .dead _
      | rows hl hr h => exact .rows hl hr fun i r r' j a b h1 h2 h3 h4 => (h i r r' j a b h1 h2 h3 h4).mono (fun i j ⟨e, h⟩ => range_get.2 ⟨e, h⟩) (.inl rfl)
      | cut n hl hr h => exact .cut n hl hr fun i r r' j a b h1 h2 h3 h4 => (h i r r' j a b h1 h2 h3 h4).mono (fun i j ⟨e, h⟩ => range_get.2 ⟨e, h⟩) (.inl rfl)
      | imap hl h => exact .imap hl fun i a b h1 h2 => ⟨(h i a b h1 h2).1, (h i a b h1 h2).2.mono (fun i j ⟨e, h⟩ => range_get.2 ⟨e, h⟩) (.inl rfl)⟩
    · rw [e, e']
      subst e'
      obtain ⟨k1, k2⟩ := seenRs_at hr
      refine .rows k1 (fun i r r' h1 h2 => (seenL_at (k2 i r r' h1 h2)).1) fun i r r' j a b h1 h2 h3 h4 => ?_
      exact seen1_seen ((seenL_at (k2 i r r' h1 h2)).2 j a b h3 h4) (hlo.cell h2 h4)
/-- As seenTm, of objects, one by one. -/
def seenH : List AObj → List AObj → Prop
  | _, [] => True
  | o :: l, o' :: l' => seenOb o o' ∧ seenH l l'
  | [], _ :: _ => False
theorem seenH_split : ∀ {H H' : List AObj}, seenH H H' → ∃ F rest, H = F ++ rest ∧ F.length = H'.length ∧ ∀ (j : Nat) o o', F[j]? = some o → H'[j]? = some o' → seenOb o o'
  | H, [], _ => ⟨[], H, rfl, rfl, fun j o o' h => by simp at h⟩
  | o :: l, o' :: l', h => by
    obtain ⟨h1, h2⟩ := h
    obtain ⟨F, rest, e, hl, hs⟩ := seenH_split h2
    refine ⟨o :: F, rest, by rw [e]; rfl, by simp [hl], fun j p p' hp hp' => ?_⟩
    cases j with
    | zero => simp at hp hp'; subst hp; subst hp'; exact h1
    | succ j => exact hs j p p' (by simpa using hp) (by simpa using hp')
  | [], _ :: _, h => h.elim
theorem weakG {m : Nat} {tm : List (Nat × AV)} {H : List AObj} {s' : AS} (hm : m ≤ s'.hp.length) (h0 : seenH H s'.hp) (h1 : seenTm tm s'.tm) (h2 : lowTm s'.hp.length s'.tm) (h3 : ∀ o ∈ s'.hp, LowO s'.hp.length o) : Weak m ⟨tm, H⟩ s' := by
  obtain ⟨F, rest, e, hl, hs⟩ := seenH_split h0
  subst e
  exact Shed.weak (g := List.range s'.hp.length) ((Shed.frontG hl rfl hs h3).le hm) (seenTm_look h1 h2)
section
variable {Γ : FuncId → Ctr} {m : Nat} {keep : List Nat} {Q : Exit → AS → Prop} {s : AS}
def headG {α : Type} (keep : List Nat) (st : α → AS) (inv : α → Prop) (b : α) (s2 : AS) : Prop := seenTm (only s2.tm keep) (st b).tm ∧ seenH s2.hp (st b).hp ∧ inv b
def nextG {α : Type} (keep : List Nat) (st : α → AS) (inv : α → Prop) (μ : α → Nat) (a : α) (s2 : AS) : Prop := ∃ b, μ b < μ a ∧ headG keep st inv b s2
theorem headG.weak {α : Type} {st : α → AS} {inv : α → Prop} {b : α} {s2 : AS} (h : headG keep st inv b s2) (hm : m ≤ (st b).hp.length) (hl : inv b → lowTm (st b).hp.length (st b).tm ∧ ∀ o ∈ (st b).hp, LowO (st b).hp.length o) : Weak m ⟨only s2.tm keep, s2.hp⟩ (st b) :=
  weakG hm h.2.1 h.1 (hl h.2.2).1 (hl h.2.2).2
theorem LoopC.byG {c : ICode} {α : Type} (st : α → AS) (inv : α → Prop) (μ : α → Nat) (a0 : α) (hm : ∀ b, m ≤ (st b).hp.length) (hl : ∀ b, inv b → lowTm (st b).hp.length (st b).tm ∧ ∀ o ∈ (st b).hp, LowO (st b).hp.length o)
    (h0 : headG keep st inv a0 s) (h : ∀ a, inv a → vc Γ m c (thn (nextG keep st inv μ a) Q) (st a)) : LoopC Γ m keep c Q s := by
  refine ⟨fun n s' => ∃ a, s' = st a ∧ inv a ∧ μ a = n, ⟨μ a0, _, h0.weak (hm a0) (hl a0), a0, rfl, h0.2.2, rfl⟩, fun n s' ⟨a, e, hi, hn⟩ => ?_⟩
  subst e
  subst hn
  refine vc_mono c (thn_mono (fun s2 h => ?_) fun _ _ h => h) (h a hi)
  obtain ⟨b, h1, h2⟩ := h
  exact ⟨μ b, _, h1, h2.weak (hm b) (hl b), b, rfl, h2.2.2, rfl⟩
end
theorem seenOb_refl (o : AObj) : seenOb o o := .inl rfl
theorem seenH_refl : ∀ (H rest : List AObj), seenH (H ++ rest) H
  | [], rest => by cases rest <;> trivial
  | o :: l, rest => ⟨.inl rfl, seenH_refl l rest⟩
end Go.Proofs.Ytaimhgmakgbfaaa.Sx
