/- Package step: Breaks, May. No conditions: a kit of our own. -/
import Derived.Test.YtfjidignjjaihaaFnSt2
namespace Go.Proofs.Ytfjidignjjaihaa.Sx
open Go Go.RowKit
set_option linter.unusedVariables false
set_option linter.unusedSimpArgs false

theorem BackC.genW {Γ : FuncId → Ctr} {m : Nat} {keep : List Nat} {Q : Exit → AS → Prop} {s : AS} {pre rest : ICode} {l : Nat} {α : Type} (st : α → AS) (inv : α → Prop) (μ : α → Nat) (h0 : vc Γ m pre (thn (fun s2 => ∃ b, Weak m ⟨only s2.tm keep, s2.hp⟩ (st b) ∧ inv b) (noGo Q)) s)
    (h : ∀ a, inv a → vc Γ m rest (jmp l (fun s2 => ∃ b g, atR m g keep (st b) s2 ∧ inv b ∧ μ b < μ a) Q) (st a)) : BackC Γ m keep pre l rest Q s := by
  refine ⟨fun n s' => ∃ a, s' = st a ∧ inv a ∧ μ a = n, vc_mono pre (thn_mono (fun s2 h => ?_) fun _ _ h => h) h0, fun n s' ⟨a, e, hi, hn⟩ => ?_⟩
  · obtain ⟨b, h2, h3⟩ := h
    exact ⟨μ b, _, h2, b, rfl, h3, rfl⟩
  · subst e
    subst hn
    refine vc_mono rest (fun e s2 h => ?_) (h a hi)
    cases e <;> first | exact h | skip
    obtain ⟨e, b, g, h1, h2, h3⟩ := h
    exact ⟨e, μ b, _, h3, h1.weak, b, rfl, h2, rfl⟩
/-- Closures that see a box. -/
def fnsP (fs : List FuncId) (a : AV) : List (List AV) := fs.map fun f => [.fn f [] [a]]
theorem seen_fnsP {H : List AObj} {R : Nat → Nat → Prop} {fs : List FuncId} {a b : AV} (h : Seen H R a b) : Seen H R (.view (fnsP fs a)) (.view (fnsP fs b)) := by
  refine .view (by simp [fnsP]) (fun i r r' h1 h2 => ?_) fun i r r' j x y h1 h2 h3 h4 => ?_
  · simp only [fnsP, List.getElem?_map, Option.map_eq_some_iff] at h1 h2
    obtain ⟨f, _, rfl⟩ := h1
    obtain ⟨f', _, rfl⟩ := h2
    rfl
  · simp only [fnsP, List.getElem?_map, Option.map_eq_some_iff] at h1 h2
    obtain ⟨f, e1, rfl⟩ := h1
    obtain ⟨f', e2, rfl⟩ := h2
    rw [e1] at e2; cases e2
    match j with
    | 0 =>
      simp at h3 h4; subst h3; subst h4
      refine .fn rfl rfl (fun i a b h => by simp at h) fun i x y h1 h2 => ?_
      match i with
      | 0 => simp at h1 h2; subst h1; subst h2; exact h
      | i + 1 => simp at h1
    | j + 1 => simp at h3
def ruleF : List FuncId := [66, 68, 70, 72, 74]
def ruleQ (p : Par) : Nat → Bool
  | 0 => risesB p
  | 1 => tasksQ staysQ p
  | 2 => tasksQ countsQ p
  | 3 => peopleQ p
  | _ => leasesQ p
/-- Which rules are broken, of the first so many. -/
def brk (p : Par) : Nat → List Int
  | 0 => []
  | i + 1 => brk p i ++ if ruleQ p i then [] else [(i : Int) + 1]
theorem brk_len (p : Par) : ∀ i, (brk p i).length ≤ i
  | 0 => Nat.le_refl _
  | i + 1 => by have := brk_len p i; rw [brk]; split <;> simp <;> omega
attribute [local irreducible] risesB tasksQ peopleQ leasesQ brk
theorem weak_rules (p : Par) (o0 o1 : AObj) : Weak 0 ⟨[(6, .view (fnsP ruleF (.ptr 2 0 0))), (7, .nils), (8, .int .i64 0)], [o0, o1, .rows 16 [Cel.c p]]⟩ ⟨[(6, .view (fnsP ruleF (.vp (Cel.c p) 0))), (7, bs 0 []), (8, .int .i64 (0 : Nat))], [bob 1 []]⟩ := by
  refine Shed.weak (g := [0]) ⟨rfl, Nat.zero_le _, fun j h => by omega, fun i j k hi hj => ?_, fun j i o' hj ho hd => ?_⟩ fun i => ?_
  · match i, j with
    | 0, 0 => rfl
    | i + 1, _ => simp at hi
    | 0, j + 1 => simp at hj
  · match j with
    | 0 => simp [bob] at ho; exact absurd ho.symm hd
    | j + 1 => simp at hj
  · simp only [look1]
    split
    · refine seen_fnsP (.fzp (sz := 16) (rs := [Cel.c p]) (row := Cel.c p) rfl (fun j h => ?_) rfl rfl fun k x y h1 h2 => ?_)
      · match j with
        | 0 => simp [byG] at h
        | j + 1 => simp [byG] at h
      · rw [h1] at h2; cases h2
        exact Closed.seen (Cel.closed p x (List.mem_of_getElem? h1)) _ _
    · split
      · exact .nils
      · split
        · exact .int _ _
        · exact .any _
theorem brk_0 (p : Par) : brk p 0 = [] := by unfold brk; rfl
theorem brk_s (p : Par) (i : Nat) : brk p (i + 1) = brk p i ++ if ruleQ p i then [] else [(i : Int) + 1] := by
  conv => lhs; unfold brk
theorem det_step_Breaks (a b : Stt) (ha : shortS a) (hb : shortS b) : Det Try.prog 14 [en a, en b] [] (en (brk ⟨a, b⟩ 5)) [] := by
  refine det_finF mixed0 (knows_cons known_Breaks1 (knows_cons known_Breaks2 (knows_cons known_Breaks3 (knows_cons known_Breaks4 (knows_cons known_Breaks5 knows_nil))))) ok_step_Breaks 2 (by simp) ?_
  simp [ic_step_Breaks, rs_step_Breaks]
  refine BackC.genW (fun s : Nat × List Int => ⟨[(6, .view (fnsP ruleF (.vp (Cel.c (⟨a, b⟩ : Par)) 0))), (7, bs 0 (s.2.map Cel.c)), (8, .int .i64 s.1)], [bob 1 (s.2.map Cel.c)]⟩) (fun s => s.1 ≤ 5 ∧ s.2 = brk ⟨a, b⟩ s.1) (fun s => 5 - s.1) ?_ ?_
  · simp
    refine ⟨0, ?_, by omega⟩
    rw [brk_0]
    simpa [fnsP, ruleF] using weak_rules ⟨a, b⟩ (.rows 8 [Cel.c a]) (.rows 8 [Cel.c b])
  · rintro ⟨i, out⟩ ⟨h1, h2⟩
    simp only at h1 h2
    have hl := brk_len ⟨a, b⟩ i
    rw [← h2] at hl
    have cv : Closed (.view (fnsP ruleF (.vp (Cel.c (⟨a, b⟩ : Par)) 0))) := seen_fnsP (closed_vpc (⟨a, b⟩ : Par))
    simp [fnsP, ruleF] at cv
    have key : i = 0 ∨ i = 1 ∨ i = 2 ∨ i = 3 ∨ i = 4 ∨ i = 5 := by omega
    rcases key with rfl | rfl | rfl | rfl | rfl | rfl
    · have e := brk_s ⟨a, b⟩ 0
      cases hq : risesB ⟨a, b⟩
      · simp [ruleQ, hq, ← h2] at e
        simp [fnsP, ruleF, cRule, ha, hb, hq]
        exact ⟨by omega, 1, out ++ [1], ⟨[1], by simp [atR, cv]⟩, ⟨by omega, e.symm⟩, by omega⟩
      · simp [ruleQ, hq, ← h2] at e
        simp [fnsP, ruleF, cRule, ha, hb, hq]
        exact ⟨1, out, ⟨[0], by simp [atR, cv]⟩, ⟨by omega, e.symm⟩, by omega⟩
    · have e := brk_s ⟨a, b⟩ 1
      cases hq : tasksQ staysQ ⟨a, b⟩
      · simp [ruleQ, hq, ← h2] at e
        simp [fnsP, ruleF, cRule, ha, hb, hq]
        exact ⟨by omega, 2, out ++ [2], ⟨[1], by simp [atR, cv]⟩, ⟨by omega, e.symm⟩, by omega⟩
      · simp [ruleQ, hq, ← h2] at e
        simp [fnsP, ruleF, cRule, ha, hb, hq]
        exact ⟨2, out, ⟨[0], by simp [atR, cv]⟩, ⟨by omega, e.symm⟩, by omega⟩
    · have e := brk_s ⟨a, b⟩ 2
      cases hq : tasksQ countsQ ⟨a, b⟩
      · simp [ruleQ, hq, ← h2] at e
        simp [fnsP, ruleF, cRule, ha, hb, hq]
        exact ⟨by omega, 3, out ++ [3], ⟨[1], by simp [atR, cv]⟩, ⟨by omega, e.symm⟩, by omega⟩
      · simp [ruleQ, hq, ← h2] at e
        simp [fnsP, ruleF, cRule, ha, hb, hq]
        exact ⟨3, out, ⟨[0], by simp [atR, cv]⟩, ⟨by omega, e.symm⟩, by omega⟩
    · have e := brk_s ⟨a, b⟩ 3
      cases hq : peopleQ ⟨a, b⟩
      · simp [ruleQ, hq, ← h2] at e
        simp [fnsP, ruleF, cRule, ha, hb, hq]
        exact ⟨by omega, 4, out ++ [4], ⟨[1], by simp [atR, cv]⟩, ⟨by omega, e.symm⟩, by omega⟩
      · simp [ruleQ, hq, ← h2] at e
        simp [fnsP, ruleF, cRule, ha, hb, hq]
        exact ⟨4, out, ⟨[0], by simp [atR, cv]⟩, ⟨by omega, e.symm⟩, by omega⟩
    · have e := brk_s ⟨a, b⟩ 4
      cases hq : leasesQ ⟨a, b⟩
      · simp [ruleQ, hq, ← h2] at e
        simp [fnsP, ruleF, cRule, ha, hb, hq]
        exact ⟨by omega, 5, out ++ [5], ⟨[1], by simp [atR, cv]⟩, ⟨by omega, e.symm⟩, by omega⟩
      · simp [ruleQ, hq, ← h2] at e
        simp [fnsP, ruleF, cRule, ha, hb, hq]
        exact ⟨5, out, ⟨[0], by simp [atR, cv]⟩, ⟨by omega, e.symm⟩, by omega⟩
    · simp [fnsP, ruleF, h2]
def cBreaks : Ctr := V2 (fun a b : Stt => shortS a ∧ shortS b) fun a b => en (brk ⟨a, b⟩ 5)
theorem known_StepBreaks : Known Try.prog 14 cBreaks := known_V2 (fun a b h => det_step_Breaks a b h.1 h.2) fun a b h => closed_en _
theorem det_step_May (a b : Stt) (ha : shortS a) (hb : shortS b) : Det Try.prog 15 [en a, en b] [] (.bool (decide (brk ⟨a, b⟩ 5 = []))) [] := by
  refine det_finF mixed0 (knows_cons known_StepBreaks knows_nil) ok_step_May 1 (by simp) ?_
  simp [ic_step_May, rs_step_May, cBreaks, ha, hb]
def cMay : Ctr := C2 (fun a b : Stt => shortS a ∧ shortS b) fun a b => .bool (decide (brk ⟨a, b⟩ 5 = []))
theorem known_StepMay : Known Try.prog 15 cMay := known_C2 (fun a b h => det_step_May a b h.1 h.2) fun a b => flat_bool _
end Go.Proofs.Ytfjidignjjaihaa.Sx
