/- Loops whose rounds leave objects that nobody names any more. No conditions: a kit of our own. -/
import Derived.Test.YtaimhgmakgbfaaaSx21
namespace Go.Proofs.Ytaimhgmakgbfaaa.Sx
open Go Go.RowKit
set_option linter.unusedVariables false
set_option linter.unusedSimpArgs false

/-- Slots told of as they are, or nil slices as slices of nothing. -/
def seenTm : List (Nat × AV) → List (Nat × AV) → Prop
  | [], [] => True
  | (k, v) :: l, (k', v') :: l' => k = k' ∧ (v = v' ∨ (v = .nils ∧ v' = .view [])) ∧ seenTm l l'
  | _, _ => False
def lowTm (k : Nat) (tm : List (Nat × AV)) : Prop := ∀ p ∈ tm, Low k p.2
theorem Shed.le {m m' : Nat} {g : List Nat} {H H' : List AObj} (h : Shed m g H H') (hm : m' ≤ m) : Shed m' g H H' := ⟨h.len, Nat.le_trans hm h.low, fun j hj => h.keep j (by omega), h.nodup, h.obj⟩
theorem seenTm_look {k : Nat} {H : List AObj} : ∀ {tm tm' : List (Nat × AV)}, seenTm tm tm' → lowTm k tm' → ∀ i, Seen H (byG (List.range k)) (look1 tm i) (look1 tm' i)
  | [], [], _, _, i => .any _
  | (n, v) :: l, (n', v') :: l', h, hl, i => by
    obtain ⟨rfl, h1, h2⟩ := h
    simp only [look1]
    split
    · rcases h1 with rfl | ⟨rfl, rfl⟩
      · exact (hl (n, v) (by simp)).mono (fun i j ⟨e, h⟩ => range_get.2 ⟨e, h⟩) (.inl rfl)
      · exact .nilv
    · exact seenTm_look h2 (fun p hp => hl p (by simp [hp])) i
  | [], _ :: _, h, _, i => h.elim
  | _ :: _, [], h, _, i => h.elim
theorem weakF {m : Nat} {tm : List (Nat × AV)} {s' : AS} {rest : List AObj} (hm : m ≤ s'.hp.length) (h1 : seenTm tm s'.tm) (h2 : lowTm s'.hp.length s'.tm) (h3 : ∀ o ∈ s'.hp, LowO s'.hp.length o) : Weak m ⟨tm, s'.hp ++ rest⟩ s' :=
  Shed.weak (g := List.range s'.hp.length) ((Shed.front rfl h3).le hm) (seenTm_look h1 h2)

section
variable {Γ : FuncId → Ctr} {m : Nat} {keep : List Nat} {Q : Exit → AS → Prop} {s : AS}
def headF {α : Type} (keep : List Nat) (st : α → AS) (inv : α → Prop) (b : α) (s2 : AS) : Prop := seenTm (only s2.tm keep) (st b).tm ∧ (∃ rest, s2.hp = (st b).hp ++ rest) ∧ inv b
def nextF {α : Type} (keep : List Nat) (st : α → AS) (inv : α → Prop) (μ : α → Nat) (a : α) (s2 : AS) : Prop := ∃ b, μ b < μ a ∧ headF keep st inv b s2
theorem headF.weak {α : Type} {st : α → AS} {inv : α → Prop} {b : α} {s2 : AS} (h : headF keep st inv b s2) (hm : m ≤ (st b).hp.length) (hl : inv b → lowTm (st b).hp.length (st b).tm ∧ ∀ o ∈ (st b).hp, LowO (st b).hp.length o) : Weak m ⟨only s2.tm keep, s2.hp⟩ (st b) := by
  obtain ⟨h1, ⟨rest, h2⟩, h3⟩ := h
  rw [h2]
  exact weakF hm h1 (hl h3).1 (hl h3).2
theorem LoopC.byF {c : ICode} {α : Type} (st : α → AS) (inv : α → Prop) (μ : α → Nat) (a0 : α) (hm : ∀ b, m ≤ (st b).hp.length) (hl : ∀ b, inv b → lowTm (st b).hp.length (st b).tm ∧ ∀ o ∈ (st b).hp, LowO (st b).hp.length o)
    (h0 : headF keep st inv a0 s) (h : ∀ a, inv a → vc Γ m c (thn (nextF keep st inv μ a) Q) (st a)) : LoopC Γ m keep c Q s := by
  refine ⟨fun n s' => ∃ a, s' = st a ∧ inv a ∧ μ a = n, ⟨μ a0, _, h0.weak (hm a0) (hl a0), a0, rfl, h0.2.2, rfl⟩, fun n s' ⟨a, e, hi, hn⟩ => ?_⟩
  subst e
  subst hn
  refine vc_mono c (thn_mono (fun s2 h => ?_) fun _ _ h => h) (h a hi)
  obtain ⟨b, h1, h2⟩ := h
  exact ⟨μ b, _, h1, h2.weak (hm b) (hl b), b, rfl, h2.2.2, rfl⟩
end
theorem low_closed {k : Nat} {a : AV} (h : Closed a) : Low k a := h.seen _ _
theorem low_ptr {k i r o : Nat} (h : i < k) : Low k (.ptr i r o) := .ptr ⟨rfl, h⟩
theorem lowTm_nil (k : Nat) : lowTm k [] := fun p h => by simp at h
theorem lowTm_cons {k n : Nat} {v : AV} {l : List (Nat × AV)} (h : Low k v) (t : lowTm k l) : lowTm k ((n, v) :: l) := fun p hp => by
  rcases List.mem_cons.1 hp with rfl | hp
  · exact h
  · exact t p hp
attribute [simp] seenTm
end Go.Proofs.Ytaimhgmakgbfaaa.Sx
