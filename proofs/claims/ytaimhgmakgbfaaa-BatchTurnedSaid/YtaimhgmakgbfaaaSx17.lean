/- What is shown of a function's code in the small language holds of the function ('acall_of_vc'). No conditions: a kit of our own. -/
import Derived.Test.YtaimhgmakgbfaaaSx16
namespace Go.Proofs.Ytaimhgmakgbfaaa.Sx
open Go Go.RowKit
set_option linter.unusedVariables false
set_option linter.unusedSimpArgs false

section
variable {P : Program}
/-- A loop, by a relation and a number that falls. -/
theorem wp_loopN {c : Code} {Q : Exit → Act → World → Prop} (J : Nat → Act → World → Prop) (round : ∀ n a w, J n a w → c.wp P (Exit.then (fun a' w' => ∃ n', n' < n ∧ J n' a' w') Q) a w) {n : Nat} {a : Act} {w : World} (h0 : J n a w) :
    (Code.loop c).wp P Q a w := by
  intro b k cs
  have key : ∀ n a w, J n a w → ∃ e a' w', Q e a' w' ∧ Arrives P (lone (b.at a (.code c :: .inLoop c :: k)) cs w) b k cs e a' w' := by
    intro n
    induction n using Nat.strongRecOn with
    | _ n ih =>
      intro a w hJ
      obtain ⟨e, a1, w1, hq, harr⟩ := round n a w hJ b (.inLoop c :: k) cs
      cases e with
      | normal =>
        obtain ⟨n', hlt, hJ'⟩ := hq
        obtain ⟨e2, a2, w2, hq2, harr2⟩ := ih n' hlt a1 w1 hJ'
        exact ⟨e2, a2, w2, hq2, .of_steps (Steps.trans harr (.one step_inLoop)) harr2⟩
      | exit id => exact ⟨_, a1, w1, hq, .pass (x := .inLoop c) rfl (fun _ _ => .inl (by simp)) harr⟩
      | goto l => exact ⟨_, a1, w1, hq, .pass (x := .inLoop c) rfl (fun _ _ => .inl (by simp)) harr⟩
      | ret => exact ⟨_, a1, w1, hq, .pass (x := .inLoop c) rfl (fun _ _ => .inl (by simp)) harr⟩
      | panic ch => exact ⟨_, a1, w1, hq, .pass (x := .inLoop c) rfl (fun _ _ => .inl (by simp)) harr⟩
      | outgrown => exact ⟨_, a1, w1, hq, .pass (x := .inLoop c) rfl (fun _ _ => .inl (by simp)) harr⟩
  obtain ⟨e, a', w', hq, harr⟩ := key n a w h0
  exact ⟨e, a', w', hq, .of_steps (.one step_loop) harr⟩

/-- A scope with one label that is jumped back to. -/
theorem wp_backN {c rest : Code} {l : Nat} {Q : Exit → Act → World → Prop} (J : Nat → Act → World → Prop) (hf : findLabel c l = some rest)
    (pass : ∀ n a w, J n a w → rest.wp P (Exit.jump l (fun a' w' => ∃ n', n' < n ∧ J n' a' w') Q) a w) {a : Act} {w : World} (first : c.wp P (Exit.jump l (fun a' w' => ∃ n', J n' a' w') Q) a w) : (Code.scope c).wp P Q a w := by
  intro b k cs
  have hg : gotoIn l (.inScope c :: k) = some (.code rest :: .inScope c :: k) := by simp [gotoIn, hf]
  have key : ∀ n a w, J n a w → ∃ e a' w', Q e a' w' ∧ Arrives P (lone (b.at a (.code rest :: .inScope c :: k)) cs w) b k cs e a' w' := by
    intro n
    induction n using Nat.strongRecOn with
    | _ n ih =>
      intro a w hJ
      obtain ⟨e, a1, w1, hq, harr⟩ := pass n a w hJ b (.inScope c :: k) cs
      cases e with
      | normal => exact ⟨.normal, a1, w1, hq, Steps.trans harr (.one step_inScope)⟩
      | exit id => exact ⟨.exit id, a1, w1, hq, fun k' hk => harr k' (by simp [exitTo, hk])⟩
      | goto l' =>
        obtain ⟨rfl, n', hlt, hJ'⟩ := hq
        obtain ⟨e2, a2, w2, hq2, harr2⟩ := ih n' hlt a1 w1 hJ'
        exact ⟨e2, a2, w2, hq2, .of_steps (harr _ hg) harr2⟩
      | ret => exact ⟨_, a1, w1, hq, harr⟩
      | panic ch => exact ⟨_, a1, w1, hq, harr⟩
      | outgrown => exact ⟨_, a1, w1, hq, harr⟩
  obtain ⟨e, a1, w1, hq, harr⟩ := first b (.inScope c :: k) cs
  cases e with
  | normal => exact ⟨.normal, a1, w1, hq, .head step_scope (Steps.trans harr (.one step_inScope))⟩
  | exit id => exact ⟨.exit id, a1, w1, hq, fun k' hk => .head step_scope (harr k' (by simp [exitTo, hk]))⟩
  | goto l' =>
    obtain ⟨rfl, n', hJ'⟩ := hq
    obtain ⟨e2, a2, w2, hq2, harr2⟩ := key n' a1 w1 hJ'
    exact ⟨e2, a2, w2, hq2, .of_steps (.head step_scope (harr _ hg)) harr2⟩
  | ret => exact ⟨_, a1, w1, hq, .of_steps (.one step_scope) harr⟩
  | panic ch => exact ⟨_, a1, w1, hq, .of_steps (.one step_scope) harr⟩
  | outgrown => exact ⟨_, a1, w1, hq, .of_steps (.one step_scope) harr⟩

end

/-- ic stands for the code; with a mode: for what is ahead of a label, k for what is behind it. -/
def okC (P : Program) (nt : Nat) : ICode → Option (Nat × (Code → Bool)) → Code → Bool
  | .skip, none, .skip => true
  | .ops id draw l, none, .region id' ops draw' => id == id' && draw == draw' && all2 (okOper P ops nt) ops.toList l && (!draw || drawOK ops l)
  | .seq a b, none, .seq x y => okC P nt a none x && okC P nt b none y
  | .seq p ps, some k, .seq x y => okC P nt p none x && (findLabel x k.1).isNone && okC P nt ps (some k) y
  | .label l, some k, .seq (.label l') r => l == k.1 && l' == k.1 && k.2 r
  | .cond x a b, none, .cond c y z => opdOk c x && okC P nt a none y && okC P nt b none z
  | .block id c, none, .block id' c' => id == id' && okC P nt c none c'
  | .loop _ c, none, .loop c' => okC P nt c none c'
  | .exit id, none, .exit id' => id == id'
  | .scope c, none, .scope c' => okC P nt c none c'
  | .back _ pre l rest, none, .scope c => okC P nt pre (some (l, fun r => okC P nt rest none r)) c
  | .label l, none, .label l' => l == l'
  | .goto l, none, .goto l' => l == l'
  | .ret, none, .ret => true
  | .join _ c, none, c' => okC P nt c none c'
  | _, _, _ => false

section
variable {P : Program} {Γ : FuncId → Ctr} {nt m : Nat}

theorem Weak.refl (s : AS) : Weak m s s := fun nt E a h hm => ⟨E, rfl, h, Ext.refl hm⟩

/-- Out of a proof about states: a post of frames and worlds. -/
def PostC (nt m : Nat) (E0 : Env) (Q : Exit → AS → Prop) : Exit → Act → World → Prop := fun e a w => ∃ E s, E.w = w ∧ SRel nt E s a ∧ Ext m E0 E ∧ Q e s

theorem PostC.mono {E0 : Env} {Q Q' : Exit → AS → Prop} (h : ∀ e s, Q e s → Q' e s) {e : Exit} {a : Act} {w : World} (k : PostC nt m E0 Q e a w) : PostC nt m E0 Q' e a w := by
  obtain ⟨E, s, h1, h2, h3, h4⟩ := k
  exact ⟨E, s, h1, h2, h3, h _ _ h4⟩

/-- A post that has been entered holds from the elder state on. -/
theorem PostC.up {E0 E : Env} {Q : Exit → AS → Prop} (hx : Ext m E0 E) {e : Exit} {a : Act} {w : World} (k : PostC nt m E Q e a w) : PostC nt m E0 Q e a w := by
  obtain ⟨E', s, h1, h2, h3, h4⟩ := k
  exact ⟨E', s, h1, h2, hx.trans h3, h4⟩

theorem vc_sound (hmix : P.follows .mixedOrders = true) (hG : Knows P Γ) : ∀ (ic : ICode),
    (∀ c, okC P nt ic none c = true → ∀ Q s, vc Γ m ic Q s → ∀ E0 E a, SRel nt E s a → Ext m E0 E → c.wp P (PostC nt m E0 Q) a E.w) ∧
    (∀ l k c, okC P nt ic (some (l, k)) c = true → ∃ r, k r = true ∧ findLabel c l = some (.seq .skip r) ∧
      ∀ Q K s (R : Exit → Act → World → Prop), vc Γ m ic (thn K Q) s → ∀ E0 E a, SRel nt E s a → Ext m E0 E → (∀ e a w, e ≠ .normal → PostC nt m E0 Q e a w → R e a w) → (∀ E1 s1 a1, SRel nt E1 s1 a1 → Ext m E0 E1 → K s1 → r.wp P R a1 E1.w) → c.wp P R a E.w) := by
  intro ic
  induction ic with
  | skip =>
    refine ⟨fun c hok Q s h E0 E a hs hx => ?_, fun l k c hok => ?_⟩
    · cases c <;> simp [okC] at hok
      exact wp_skip ⟨E, s, rfl, hs, hx, h⟩
    · simp [okC] at hok
  | ops id draw l =>
    refine ⟨fun c hok Q s h E0 E a hs hx => ?_, fun l k c hok => ?_⟩
    · cases c <;> simp only [okC] at hok <;> first | (cases hok; done) | skip
      rename_i id' ops draw'
      simp only [Bool.and_eq_true, beq_iff_eq, Bool.or_eq_true, Bool.not_eq_true'] at hok
      obtain ⟨⟨⟨rfl, rfl⟩, h1⟩, h2⟩ := hok
      simp only [vc] at h
      cases draw
      · simp only [Bool.false_eq_true, if_false] at h
        exact wp_region_list (ops_sound hG _ _ h1 _ E0 E s a h hs hx fun E' s' a' g1 g2 g3 => ⟨E', s', rfl, g1, g2, g3⟩)
      · simp only [if_true] at h
        exact opsD_sound hmix hG h1 (by simpa using h2) h hs hx (fun E' s' a' g1 g2 g3 => ⟨E', s', rfl, g1, g2, g3⟩) id
    · simp [okC] at hok
  | seq p q ihp ihq =>
    refine ⟨fun c hok Q s h E0 E a hs hx => ?_, fun l k c hok => ?_⟩
    · cases c <;> simp [okC] at hok
      rename_i x y
      refine wp_seq (wp_mono (ihp.1 x hok.1 _ s h E0 E a hs hx) fun e a' w' hp => ?_)
      obtain ⟨E', s', rfl, g1, g2, g3⟩ := hp
      cases e with
      | normal => exact ihq.1 y hok.2 Q s' g3 E0 E' a' g1 g2
      | _ => exact ⟨E', s', rfl, g1, g2, g3⟩
    · cases c <;> simp [okC] at hok
      rename_i x y
      obtain ⟨⟨h1, h2⟩, h3⟩ := hok
      obtain ⟨r, hr, hf, hw⟩ := ihq.2 l k y h3
      refine ⟨r, hr, by simp [findLabel, h2, hf], fun Q K s R h E0 E a hs hx hR hK => ?_⟩
      simp only [vc] at h
      refine wp_seq (wp_mono (ihp.1 x h1 _ s h E0 E a hs hx) fun e a' w' hp => ?_)
      obtain ⟨E', s', rfl, g1, g2, g3⟩ := hp
      cases e with
      | normal => exact hw Q K s' R g3 E0 E' a' g1 g2 hR hK
      | _ => exact hR _ _ _ (by simp) ⟨E', s', rfl, g1, g2, g3⟩
  | cond x p q ihp ihq =>
    refine ⟨fun c hok Q s h E0 E a hs hx => ?_, fun l k c hok => ?_⟩
    · cases c <;> simp [okC] at hok
      rename_i c' y z
      obtain ⟨⟨h1, h2⟩, h3⟩ := hok
      simp only [vc] at h
      split at h
      · rename_i t ht
        have hv := hs.ev h1
        rw [ht] at hv
        have hv := hv.bool_inv
        refine wp_cond_split hv (fun e => ?_) (fun e => ?_)
        · exact ihp.1 y h2 Q s (h.1 e) E0 E a hs hx
        · exact ihq.1 z h3 Q s (h.2 e) E0 E a hs hx
      · exact h.elim
    · simp [okC] at hok
  | block id p ihp =>
    refine ⟨fun c hok Q s h E0 E a hs hx => ?_, fun l k c hok => ?_⟩
    · cases c <;> simp [okC] at hok
      rename_i id' c'
      obtain ⟨rfl, h1⟩ := hok
      refine wp_block (wp_mono (ihp.1 c' h1 _ s h E0 E a hs hx) fun e a' w' hp => ?_)
      obtain ⟨E', s', rfl, g1, g2, g3⟩ := hp
      cases e with
      | exit id' =>
        simp only [blk] at g3
        simp only [Exit.inBlock]
        split <;> rename_i hid
        · rw [if_pos hid] at g3; exact ⟨E', s', rfl, g1, g2, g3⟩
        · rw [if_neg hid] at g3; exact ⟨E', s', rfl, g1, g2, g3⟩
      | _ => exact ⟨E', s', rfl, g1, g2, g3⟩
    · simp [okC] at hok
  | loop keep p ihp =>
    refine ⟨fun c hok Q s h E0 E a hs hx => ?_, fun l k c hok => ?_⟩
    · cases c <;> simp [okC] at hok
      rename_i c'
      simp only [vc] at h
      obtain ⟨I, ⟨n, s1, hw, hI⟩, hround⟩ := h
      obtain ⟨E1, e1, hs1, hx1⟩ := hw nt E a (hs.only _) hx.m
      rw [← e1]
      refine wp_loopN (fun n a w => ∃ E s, E.w = w ∧ SRel nt E s a ∧ Ext m E0 E ∧ I n s) (fun n a w hJ => ?_) ⟨E1, s1, rfl, hs1, hx.trans hx1, hI⟩
      obtain ⟨E', s', rfl, g1, g2, g3⟩ := hJ
      refine wp_mono (ihp.1 c' hok _ s' (hround n s' g3) E0 E' a g1 g2) fun e a' w' hp => ?_
      obtain ⟨E2, s2, rfl, k1, k2, k3⟩ := hp
      cases e with
      | normal =>
        obtain ⟨n', s3, hlt, hw, hI⟩ := k3
        obtain ⟨E3, e3, hs3, hx3⟩ := hw nt E2 a' (k1.only _) k2.m
        exact ⟨n', hlt, E3, s3, e3, hs3, k2.trans hx3, hI⟩
      | _ => exact ⟨E2, s2, rfl, k1, k2, k3⟩
    · simp [okC] at hok
  | exit id =>
    refine ⟨fun c hok Q s h E0 E a hs hx => ?_, fun l k c hok => ?_⟩
    · cases c <;> simp [okC] at hok
      subst hok
      exact wp_exit ⟨E, s, rfl, hs, hx, h⟩
    · simp [okC] at hok
  | scope p ihp =>
    refine ⟨fun c hok Q s h E0 E a hs hx => ?_, fun l k c hok => ?_⟩
    · cases c <;> simp [okC] at hok
      rename_i c'
      simp only [vc] at h
      refine wp_scope_straight (wp_mono (ihp.1 c' hok _ s h E0 E a hs hx) fun e a' w' hp => ?_)
      obtain ⟨E', s', rfl, g1, g2, g3⟩ := hp
      cases e with
      | goto l => exact g3.elim
      | _ => exact ⟨E', s', rfl, g1, g2, g3⟩
    · simp [okC] at hok
  | back keep pre l rest ihp ihr =>
    refine ⟨fun c hok Q s h E0 E a hs hx => ?_, fun l k c hok => ?_⟩
    · cases c <;> simp [okC] at hok
      rename_i c'
      obtain ⟨r, hr, hf, hw⟩ := ihp.2 l _ c' hok
      simp only [vc] at h
      obtain ⟨I, hpre, hround⟩ := h
      let J : Nat → Act → World → Prop := fun n a w => ∃ E s, E.w = w ∧ SRel nt E s a ∧ Ext m E0 E ∧ I n s
      have pass : ∀ n a w, J n a w → r.wp P (Exit.jump l (fun a' w' => ∃ n', n' < n ∧ J n' a' w') (PostC nt m E0 Q)) a w := fun n a w hJ => by
        obtain ⟨E', s', rfl, g1, g2, g3⟩ := hJ
        refine wp_mono (ihr.1 r hr _ s' (hround n s' g3) E0 E' a g1 g2) fun e a' w' hp => ?_
        obtain ⟨E2, s2, rfl, k1, k2, k3⟩ := hp
        cases e with
        | goto l' =>
          obtain ⟨rfl, n', s3, hlt, hw, hI⟩ := k3
          obtain ⟨E3, e3, hs3, hx3⟩ := hw nt E2 a' (k1.only _) k2.m
          exact ⟨rfl, n', hlt, E3, s3, e3, hs3, k2.trans hx3, hI⟩
        | _ => exact ⟨E2, s2, rfl, k1, k2, k3⟩
      refine wp_backN J hf (fun n a w hJ => wp_seq (wp_skip (pass n a w hJ))) ?_
      refine hw (noGo Q) _ s _ hpre E0 E a hs hx (fun e a' w' hne hp => ?_) (fun E1 s1 a1 g1 g2 g3 => ?_)
      · obtain ⟨E', s', rfl, g1, g2, g3⟩ := hp
        cases e with
        | normal => exact absurd rfl hne
        | goto l' => exact g3.elim
        | _ => exact ⟨E', s', rfl, g1, g2, g3⟩
      · obtain ⟨n, s3, hw3, hI⟩ := g3
        obtain ⟨E3, e3, hs3, hx3⟩ := hw3 nt E1 a1 (g1.only _) g2.m
        rw [← e3]
        refine wp_mono (pass n a1 E3.w ⟨E3, s3, rfl, hs3, g2.trans hx3, hI⟩) fun e a' w' hp => ?_
        cases e with
        | goto l' => obtain ⟨rfl, n', _, hJ⟩ := hp; exact ⟨rfl, n', hJ⟩
        | _ => exact hp
    · simp [okC] at hok
  | label l =>
    refine ⟨fun c hok Q s h E0 E a hs hx => ?_, fun l k c hok => ?_⟩
    · cases c <;> simp [okC] at hok
      exact wp_label ⟨E, s, rfl, hs, hx, h⟩
    · cases c <;> first | (simp [okC] at hok; done) | skip
      rename_i x y
      cases x <;> first | (simp [okC] at hok; done) | skip
      simp [okC] at hok
      obtain ⟨⟨rfl, rfl⟩, hr⟩ := hok
      refine ⟨y, hr, by simp [findLabel], fun Q K s R h E0 E a hs hx hR hK => ?_⟩
      exact wp_seq (wp_label (hK E s a hs hx h))
  | goto l =>
    refine ⟨fun c hok Q s h E0 E a hs hx => ?_, fun l k c hok => ?_⟩
    · cases c <;> simp [okC] at hok
      subst hok
      exact wp_goto ⟨E, s, rfl, hs, hx, h⟩
    · simp [okC] at hok
  | ret =>
    refine ⟨fun c hok Q s h E0 E a hs hx => ?_, fun l k c hok => ?_⟩
    · cases c <;> simp [okC] at hok
      exact wp_ret ⟨E, s, rfl, hs, hx, h⟩
    · simp [okC] at hok
  | join keep p ihp =>
    refine ⟨fun c hok Q s h E0 E a hs hx => ?_, fun l k c hok => ?_⟩
    · simp only [okC] at hok
      simp only [vc] at h
      obtain ⟨J, hp, hJ⟩ := h
      refine wp_mono (ihp.1 c hok _ s hp E0 E a hs hx) fun e a' w' hp => ?_
      obtain ⟨E', s', rfl, g1, g2, g3⟩ := hp
      cases e with
      | normal => exact ⟨E', _, rfl, g1.only _, g2, hJ _ g3⟩
      | _ => exact ⟨E', s', rfl, g1, g2, g3⟩
    · simp [okC] at hok

theorem rdv_of {g : Option Nat} {row : List AV} {off : Nat} (h : rdp g row off) : rdv g row off = some (rdd g row off) := by
  obtain ⟨x, h1, h2⟩ := rd_iff.1 (rd_of (k := fun y => y = rdd g row off) h rfl)
  rw [h1, h2]

def resOk (P : Program) : List ResultVar → List IRes → Bool
  | [], [] => true
  | .tmp t :: l, .t n :: il => t == n && resOk P l il
  | .cell a t :: l, .cell n g :: il => a == n && aggIs P t g && resOk P l il
  | _, _ => false

def resOne (tmps : Array Value) : ResultVar → Sem Value
  | .tmp t => pure (tmps.getD t undef)
  | .cell a t => do loadVar t (← asAddr (tmps.getD a undef))

theorem resv_run {E : Env} {s : AS} {a : Act} (hs : SRel nt E s a) : ∀ (l : List ResultVar) (il : List IRes), resOk P l il = true → resp s il → ∃ ws, VRels E (resv s il) ws ∧ (l.mapM (resOne a.tmps)).run P E.w = .ok ws E.w
  | [], [], _, h => ⟨[], .nil, by simp⟩
  | .tmp t :: l, .t n :: il, hok, h => by
    simp only [resOk, Bool.and_eq_true, beq_iff_eq] at hok
    obtain ⟨rfl, hok⟩ := hok
    obtain ⟨ws, h2, h3⟩ := resv_run hs l il hok h
    exact ⟨_, .cons (hs.tm t) h2, by simp only [List.mapM_cons, resOne, Sem.run_bind, Sem.run_pure, Result.andThen_ok, h3]⟩
  | .cell b t :: l, .cell n g :: il, hok, h => by
    simp only [resOk, Bool.and_eq_true, beq_iff_eq] at hok
    obtain ⟨⟨rfl, hg⟩, hok⟩ := hok
    simp only [resp] at h
    obtain ⟨h1, h⟩ := h
    obtain ⟨ws, h2, h3⟩ := resv_run hs l il hok h
    have hv := hs.tm b
    simp only [resv]
    generalize look1 s.tm b = x at *
    cases x <;> first | exact h1.elim | skip
    rename_i id i off
    obtain ⟨h4, h5, h6⟩ := h1
    obtain ⟨sz, rs, e, e1, e2⟩ := isRows_some h4
    rw [e1] at h5 h6
    simp only [e1]
    obtain ⟨lc, hl, hpv, _⟩ := hv.ptr_inv hs.hp e (by simp)
    obtain ⟨lc', hl', hsz, _, hrd⟩ := hs.hp.reads e (getD_lt [] h5)
    rw [hl] at hl'
    cases hl'
    subst hsz
    obtain ⟨v, v1, v2⟩ := run_loadVar hg hrd (rdv_of h6)
    have ha : (asAddr (a.tmps.getD b undef)).run P E.w = .ok ⟨lc.b, lc.base + i * lc.sz + off, none⟩ E.w := by rw [hpv]; simp [asAddr]
    exact ⟨_, .cons v2 h2, by simp only [List.mapM_cons, resOne, Sem.run_bind, Sem.run_pure, Result.andThen_ok, h3, ha, v1]⟩
  | [], _ :: _, h, _ => by simp [resOk] at h
  | .tmp _ :: _, [], h, _ => by simp [resOk] at h
  | .cell _ _ :: _, [], h, _ => by simp [resOk] at h
  | .tmp _ :: _, .cell _ _ :: _, h, _ => by simp [resOk] at h
  | .cell _ _ :: _, .t _ :: _, h, _ => by simp [resOk] at h

theorem run_results {E : Env} {s : AS} {a : Act} (hs : SRel nt E s a) {fn : Func} {il : List IRes} (hok : resOk P fn.results.toList il = true) (h : resp s il) : ∃ v, VRel E (one (resv s il)) v ∧ (results fn a.tmps).run P E.w = .ok v E.w := by
  obtain ⟨ws, h2, h3⟩ := resv_run hs _ il hok h
  have hm : (fn.results.mapM (resOne a.tmps)).run P E.w = .ok ws.toArray E.w := by
    rw [Array.mapM_eq_mapM_toList]
    simp [h3]
  have hl := h2.len
  refine ⟨if h : ws.toArray.size = 1 then ws.toArray[0] else .tuple ws.toArray, ?_, ?_⟩
  · generalize resv s il = vs at *
    match vs, ws, h2, hl with
    | [v], [w], h2, _ => exact h2.at_ 0 v w rfl rfl
    | [], [], h2, _ => exact .tup (vs := []) h2.len h2.at_
    | v :: v' :: vs, w :: w' :: ws, h2, _ => 
      have : ¬ (w :: w' :: ws).toArray.size = 1 := by simp
      rw [dif_neg this]
      exact .tup h2.len h2.at_
  · have e : results fn a.tmps = (do let vs ← fn.results.mapM (resOne a.tmps); pure (if h : vs.size = 1 then vs[0] else .tuple vs)) := by
      unfold results
      congr 1
    rw [e, Sem.run_bind, hm]
    rfl

/-- The function is the one that the small language's text stands for. -/
def fnOk (P : Program) (f : FuncId) (ic : ICode) (rs : List IRes) (nt : Nat) : Bool := callable P f && match P.funcs[f]? with
  | some fn => (match fn.body with | some c => okC P nt ic none c | none => false) && resOk P fn.results.toList rs && fn.ntmps == nt
  | none => false

/-- The slots ahead of the first operation. -/
def slots : Nat → List AV → List (Nat × AV)
  | _, [] => []
  | k, x :: xs => (k, x) :: slots (k + 1) xs
theorem look1_slots : ∀ (args : List AV) (k i : Nat), look1 (slots k args) i = if k ≤ i then args.getD (i - k) .any else .any
  | [], k, i => by simp [slots, look1]
  | x :: xs, k, i => by
    simp only [slots, look1, look1_slots xs (k + 1) i]
    by_cases h1 : k = i
    · subst h1; simp
    · by_cases h2 : k + 1 ≤ i
      · have e : i - k = (i - (k + 1)) + 1 := by omega
        simp [h1, h2, show k ≤ i by omega, e]
      · simp [h1, h2, show ¬ k ≤ i by omega]

theorem acall_of_vcQ (hmix : P.follows .mixedOrders = true) (hG : Knows P Γ) {f : FuncId} {ic : ICode} {rs : List IRes} {nt : Nat} (hf : fnOk P f ic rs nt = true) {args : List AV} {H : List AObj} {R : AV → List AObj → Prop} (hn : args.length ≤ nt) {Q : Exit → AS → Prop}
    (h : vc Γ H.length ic Q ⟨slots 0 args, H⟩) (hQ : ∀ e s, Q e s → fin H.length rs R e s) : ACall P f args H R := by
  unfold fnOk at hf
  simp only [Bool.and_eq_true] at hf
  obtain ⟨hc, hf⟩ := hf
  refine ⟨hc, fun E vs hH hv => ?_⟩
  split at hf
  · rename_i fn hfn
    simp only [Bool.and_eq_true, beq_iff_eq] at hf
    obtain ⟨⟨hb, hr⟩, hnt⟩ := hf
    split at hb
    · rename_i c hbody
      have hl := hv.len
      have hs : SRel nt E ⟨slots 0 args, H⟩ { tmps := vs.toArray ++ Array.replicate (fn.ntmps - vs.toArray.size) undef, defers := [] } := by
        refine ⟨rfl, by simp; omega, fun i => ?_, hH⟩
        simp only [look1_slots, Nat.zero_le, if_true, Nat.sub_zero, Array.getD_eq_getD_getElem?, List.getD_eq_getElem?_getD]
        by_cases hi : i < args.length
        · rw [Array.getElem?_append_left (by simp; omega)]
          have h1 : args[i]? = some args[i] := List.getElem?_eq_getElem hi
          have h2 : vs[i]? = some (vs[i]'(by omega)) := List.getElem?_eq_getElem (by omega)
          simp only [h1, List.getElem?_toArray, h2, Option.getD_some]
          exact hv.at_ i _ _ h1 h2
        · rw [List.getElem?_eq_none (by omega)]
          exact .any _
      refine calls_of_wp hfn hbody (wp_mono ((vc_sound hmix hG ic).1 c hb _ _ h E E _ hs (Ext.refl (by rw [hH.n]; exact Nat.le_refl _))) fun e a w hp => ?_)
      obtain ⟨E', s', rfl, g1, g2, g3⟩ := hp
      replace g3 := hQ _ _ g3
      have fin_ : (resp s' rs ∧ ∃ x H_1, WeakR H.length (one (resv s' rs)) s'.hp x H_1 ∧ R x H_1) → a.defers = [] ∧ ∃ v, (results fn a.tmps).run P E'.w = .ok v E'.w ∧ ∃ v' E'_1 r H', Ending.returned v = .returned v' ∧ E'_1.w = E'.w ∧ VRel E'_1 r v' ∧ HRel E'_1 H' ∧ Ext H.length E E'_1 ∧ R r H' := fun hres => by
        obtain ⟨hp, x, H1, hw, hR⟩ := hres
        obtain ⟨v, hv1, hrun⟩ := run_results g1 hr hp
        obtain ⟨E2, e2, k1, k2, k3⟩ := hw E' v hv1 g1.hp g2.m
        exact ⟨g1.defers, v, hrun, v, E2, x, H1, rfl, e2, k1, k2, g2.trans k3, hR⟩
      cases e with
      | normal => exact fin_ g3
      | ret => exact fin_ g3
      | _ => exact g3.elim
    · cases hb
  · cases hf
end
end Go.Proofs.Ytaimhgmakgbfaaa.Sx
