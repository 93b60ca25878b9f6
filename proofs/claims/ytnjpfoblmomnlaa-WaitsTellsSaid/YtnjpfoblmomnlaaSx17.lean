/- What is shown of a function's code in the small language holds of the function ('acall_of_vc'). No conditions: a kit of our own. -/
import Derived.Test.YtnjpfoblmomnlaaSx16
import Derived.Maps.RangeRun
namespace Go.Proofs.Ytnjpfoblmomnlaa.Sx
open Go Go.RowKit
set_option linter.unusedVariables false
set_option linter.unusedSimpArgs false

section
variable {P : Program}
/-- A loop, by a relation and a number that falls. -/
theorem wp_loopN {c : Code} {Q : Exit → Act → World → Prop} (J : Nat → Act → World → Prop) (round : ∀ n a w, J n a w → c.wp P (Exit.then (fun a' w' => ∃ n', n' < n ∧ J n' a' w') Q) a w) {n : Nat} {a : Act} {w : World} (h0 : J n a w) :
    (Code.loop c).wp P Q a w := by
  intro b k cs
  have key : ∀ n a w, J n a w → ∃ e a' w', Q e a' w' ∧ Arrives P (lone (b.at a (.code c :: .inLoop c :: k)) cs w) b k cs e a' w' := by
    intro n
    induction n using Nat.strongRecOn with
    | _ n ih =>
      intro a w hJ
      obtain ⟨e, a1, w1, hq, harr⟩ := round n a w hJ b (.inLoop c :: k) cs
      cases e with
      | normal =>
        obtain ⟨n', hlt, hJ'⟩ := hq
        obtain ⟨e2, a2, w2, hq2, harr2⟩ := ih n' hlt a1 w1 hJ'
        exact ⟨e2, a2, w2, hq2, .of_steps (Steps.trans harr (.one step_inLoop)) harr2⟩
      | exit id => exact ⟨_, a1, w1, hq, .pass (x := .inLoop c) rfl (fun _ _ => .inl (by simp)) harr⟩
      | goto l => exact ⟨_, a1, w1, hq, .pass (x := .inLoop c) rfl (fun _ _ => .inl (by simp)) harr⟩
      | ret => exact ⟨_, a1, w1, hq, .pass (x := .inLoop c) rfl (fun _ _ => .inl (by simp)) harr⟩
      | panic ch => exact ⟨_, a1, w1, hq, .pass (x := .inLoop c) rfl (fun _ _ => .inl (by simp)) harr⟩
      | outgrown => exact ⟨_, a1, w1, hq, .pass (x := .inLoop c) rfl (fun _ _ => .inl (by simp)) harr⟩
  obtain ⟨e, a', w', hq, harr⟩ := key n a w h0
  exact ⟨e, a', w', hq, .of_steps (.one step_loop) harr⟩

/-- A scope with one label that is jumped back to. -/
theorem wp_backN {c rest : Code} {l : Nat} {Q : Exit → Act → World → Prop} (J : Nat → Act → World → Prop) (hf : findLabel c l = some rest)
    (pass : ∀ n a w, J n a w → rest.wp P (Exit.jump l (fun a' w' => ∃ n', n' < n ∧ J n' a' w') Q) a w) {a : Act} {w : World} (first : c.wp P (Exit.jump l (fun a' w' => ∃ n', J n' a' w') Q) a w) : (Code.scope c).wp P Q a w := by
  intro b k cs
  have hg : gotoIn l (.inScope c :: k) = some (.code rest :: .inScope c :: k) := by simp [gotoIn, hf]
  have key : ∀ n a w, J n a w → ∃ e a' w', Q e a' w' ∧ Arrives P (lone (b.at a (.code rest :: .inScope c :: k)) cs w) b k cs e a' w' := by
    intro n
    induction n using Nat.strongRecOn with
    | _ n ih =>
      intro a w hJ
      obtain ⟨e, a1, w1, hq, harr⟩ := pass n a w hJ b (.inScope c :: k) cs
      cases e with
      | normal => exact ⟨.normal, a1, w1, hq, Steps.trans harr (.one step_inScope)⟩
      | exit id => exact ⟨.exit id, a1, w1, hq, fun k' hk => harr k' (by simp [exitTo, hk])⟩
      | goto l' =>
        obtain ⟨rfl, n', hlt, hJ'⟩ := hq
        obtain ⟨e2, a2, w2, hq2, harr2⟩ := ih n' hlt a1 w1 hJ'
        exact ⟨e2, a2, w2, hq2, .of_steps (harr _ hg) harr2⟩
      | ret => exact ⟨_, a1, w1, hq, harr⟩
      | panic ch => exact ⟨_, a1, w1, hq, harr⟩
      | outgrown => exact ⟨_, a1, w1, hq, harr⟩
  obtain ⟨e, a1, w1, hq, harr⟩ := first b (.inScope c :: k) cs
  cases e with
  | normal => exact ⟨.normal, a1, w1, hq, .head step_scope (Steps.trans harr (.one step_inScope))⟩
  | exit id => exact ⟨.exit id, a1, w1, hq, fun k' hk => .head step_scope (harr k' (by simp [exitTo, hk]))⟩
  | goto l' =>
    obtain ⟨rfl, n', hJ'⟩ := hq
    obtain ⟨e2, a2, w2, hq2, harr2⟩ := key n' a1 w1 hJ'
    exact ⟨e2, a2, w2, hq2, .of_steps (.head step_scope (harr _ hg)) harr2⟩
  | ret => exact ⟨_, a1, w1, hq, .of_steps (.one step_scope) harr⟩
  | panic ch => exact ⟨_, a1, w1, hq, .of_steps (.one step_scope) harr⟩
  | outgrown => exact ⟨_, a1, w1, hq, .of_steps (.one step_scope) harr⟩

end

/-- The operations of a loop through a map. -/
def rangeIs (P : Program) (o : Option Oper) (r it : Nat) : Bool := match o with
  | some o => o.dst == some it && o.guard.isNone && (match o.op with
    | .range t (.tmp r') => r' == r && mapIs P t
    | _ => false)
  | none => false
def nextIs (o : Oper) (it nx : Nat) : Bool := o.dst == some nx && o.guard.isNone && (match o.op with
  | .next (.tmp it') false => it' == it
  | _ => false)
def entryIs (o : Oper) (it en : Nat) : Bool := o.dst == some en && o.guard.isNone && (match o.op with
  | .entry (.tmp it') => it' == it
  | _ => false)
def extIs (o : Oper) (x d i : Nat) : Bool := o.dst == some d && o.guard.isNone && (match o.op with
  | .extract (.tmp x') i' => x' == x && i' == i
  | _ => false)
def asgIs (o : Oper) (x d : Nat) : Bool := o.dst == some d && o.guard.isNone && (match o.op with
  | .assign (.tmp x') => x' == x
  | _ => false)
/-- The rounds: the rest of the loop, where the body is what p asks. -/
def roundIs (it nx q en e0 e1 k v b1 b0 : Nat) (p : Code → Bool) : Code → Bool
  | .block b (.loop (.seq (.region _ o5 false) (.seq (.cond (.tmp q') .skip (.exit b')) (.block b1' (.seq (.region _ o6 false) c))))) => b == b0 && b' == b0 && q' == q && b1' == b1 && p c &&
    (match o5.toList with
      | [o1, o2] => nextIs o1 it nx && extIs o2 nx q 0
      | _ => false) &&
    (match o6.toList with
      | [o1, o2, o3, o4, o5] => entryIs o1 it en && extIs o2 en e0 0 && extIs o3 en e1 1 && asgIs o4 e0 k && asgIs o5 e1 v
      | _ => false)
  | _ => false

/-- ic stands for the code; with a mode: for what is ahead of a label, k for what is behind it. -/
def okC (P : Program) (nt : Nat) : ICode → Option (Nat × (Code → Bool)) → Code → Bool
  | .skip, none, .skip => true
  | .ops id draw l, none, .region id' ops draw' => id == id' && draw == draw' && all2 (okOper P ops nt) ops.toList l && (!draw || drawOK ops l)
  | .seq a b, none, .seq x y => okC P nt a none x && okC P nt b none y
  | .seq p ps, some k, .seq x y => okC P nt p none x && (findLabel x k.1).isNone && okC P nt ps (some k) y
  | .label l, some k, .seq (.label l') r => l == k.1 && l' == k.1 && k.2 r
  | .cond x a b, none, .cond c y z => opdOk c x && okC P nt a none y && okC P nt b none z
  | .block id c, none, .block id' c' => id == id' && okC P nt c none c'
  | .loop _ c, none, .loop c' => okC P nt c none c'
  | .exit id, none, .exit id' => id == id'
  | .scope c, none, .scope c' => okC P nt c none c'
  | .back _ pre l rest, none, .scope c => okC P nt pre (some (l, fun r => okC P nt rest none r)) c
  | .label l, none, .label l' => l == l'
  | .goto l, none, .goto l' => l == l'
  | .ret, none, .ret => true
  | .join _ c, none, c' => okC P nt c none c'
  | .mrange l r it nx q en e0 e1 k v keep b1 b0 c, none, .seq (.region _ ops false) x => all2 (okOper P ops nt) ops.toList.dropLast l && rangeIs P ops.toList.getLast? r it && decide [it, nx, q, en, e0, e1, k, v].Nodup && [it, nx, q, en, e0, e1, k, v].all (· < nt) && keep.all (fun t => !([it, nx, q, en, e0, e1, k, v].contains t)) && roundIs it nx q en e0 e1 k v b1 b0 (fun c' => okC P nt c none c') x
  | _, _, _ => false

/-! ### loops through maps -/
/-- The iterator's block is nobody's any more. -/
def outE (rb : Nat) (E : Env) : Env := ⟨E.w, E.s, E.n, ⟨E.x.p, fun b => if b = rb then some rb else E.x.r b⟩⟩
theorem outE_out {rb : Nat} {E : Env} (b : Nat) : (outE rb E).out b ↔ b ≠ rb ∧ E.out b := by
  constructor
  · rintro ⟨h1, h2⟩
    have h2 : (if b = rb then some rb else E.x.r b) = none := h2
    split at h2
    · cases h2
    · rename_i hne; exact ⟨hne, h1, h2⟩
  · rintro ⟨h1, h2, h3⟩
    exact ⟨h2, (if_neg h1).trans h3⟩
theorem outE_inn {rb k : Nat} {E : Env} (hk : k ≠ rb) (ho : E.x.r rb = none) (b : Nat) : (outE rb E).inn k b ↔ E.inn k b := by
  constructor
  · rintro ⟨h1, h2⟩
    have h2 : (if b = rb then some rb else E.x.r b) = some k := h2
    split at h2
    · exact absurd (Option.some.inj h2).symm hk
    · exact ⟨h1, h2⟩
  · rintro ⟨h1, h2⟩
    exact ⟨h1, (if_neg (fun e => by rw [e, ho] at h2; cases h2)).trans h2⟩
theorem outE_ext {m m1 rb : Nat} {E0 E E' : Env} (h : Ext m E0 (outE rb E)) (k : Ext m1 E E') (hm : m ≤ m1) : Ext m E0 (outE rb E') where
  os := k.os.trans h.os
  tape := k.tape.trans h.tape
  output := k.output.trans h.output
  size := Nat.le_trans h.size k.size
  keep := fun b hb => by
    obtain ⟨h1, h2⟩ := h.keep b hb
    obtain ⟨k1, k2⟩ := k.keep b h2
    exact ⟨k1.trans h1, k2⟩
  ids := fun id l hid hl => h.ids id l hid (k.ids id l (by omega) hl)
  room := fun b cs e fr hb => by
    obtain ⟨c1, h1, e1⟩ := h.room b cs e fr hb
    obtain ⟨c2, h2, e2⟩ := k.room b c1 e fr h1
    exact ⟨c2, h2, e2.trans e1⟩
  m := Nat.le_trans hm k.m
  x := fun b => by rw [outE_out, k.x b, ← outE_out]; exact h.x b
  keepx := fun b hb => by
    have h1 := (h.x b).2 hb
    exact (k.keepx b ((outE_out b).1 h1).2).trans (h.keepx b hb)
theorem Grow.ext {E E1 E2 : Env} {m1 : Nat} (g : Grow E E1) (k : Ext m1 E1 E2) (hm : E.n ≤ m1) : Grow E E2 where
  keep := fun b hb => by
    obtain ⟨h1, h2⟩ := g.keep b hb
    obtain ⟨k1, k2⟩ := k.keep b h2
    exact ⟨k1.trans h1, k2⟩
  ids := fun id l hid hl => g.ids id l hid (k.ids id l (by omega) hl)
  room := fun b cs e fr hb => by
    obtain ⟨c1, h1, e1⟩ := g.room b cs e fr hb
    obtain ⟨c2, h2, e2⟩ := k.room b c1 e fr h1
    exact ⟨c2, h2, e2.trans e1⟩
  n := Nat.le_trans hm k.m
/-- A world that differs from another one in a block of no cells, which nobody owns. -/
structure Stepped (w w' : World) (rb : Nat) : Prop where
  os : w'.os = w.os
  tape : w'.tape = w.tape
  output : w'.output = w.output
  size : w'.heap.size = w.heap.size
  keep : ∀ b, b ≠ rb → w'.heap[b]? = w.heap[b]?
  nocell : ∀ (cs : Array Value) (e : TypeId) (fr : Nat × Nat), w.heap[rb]? ≠ some (.cells cs e fr)
theorem Stepped.room {w w' : World} {rb : Nat} (h : Stepped w w' rb) (b : Nat) (cs : Array Value) (e : TypeId) (fr : Nat × Nat) (hb : w.heap[b]? = some (.cells cs e fr)) : ∃ cs' : Array Value, w'.heap[b]? = some (.cells cs' e fr) ∧ cs'.size = cs.size :=
  ⟨cs, by rw [h.keep b (fun e1 => h.nocell cs e fr (by rw [← e1]; exact hb))]; exact hb, rfl⟩
theorem Stepped.grow {E : Env} {w' : World} {rb : Nat} (h : Stepped E.w w' rb) (hx : E.x rb) : Grow E ⟨w', E.s, E.n, E.x⟩ :=
  ⟨fun b hb => ⟨h.keep b (fun e => hb.2.2 (by rw [e]; exact hx)), by show b < w'.heap.size; rw [h.size]; exact hb.1, hb.2⟩, fun _ _ _ h => h, h.room, Nat.le_refl _⟩
theorem Stepped.hrel {E : Env} {H : List AObj} {w' : World} {rb : Nat} (h : Stepped E.w w' rb) (ho : E.out rb) (hH : HRel E H) : HRel ⟨w', E.s, E.n, E.x⟩ H :=
  ⟨hH.n, fun id l hl => by
    obtain ⟨o, h1, h2⟩ := hH.has id l hl
    exact ⟨o, h1, h2.grow (h.grow ho.1) (by rw [h.size]; exact Nat.le_refl _) (h.keep _ fun e => hH.apart id l hl (by rw [e]; exact ho.1)) fun b => ⟨fun hb => h.keep b fun e => (by
      have := hb.2; rw [e, ho.2] at this; cases this), Iff.rfl⟩⟩, hH.live, hH.inj, hH.apart, fun b hb => by show b < w'.heap.size; rw [h.size]; exact hH.xlt b hb⟩
theorem Stepped.ext {m : Nat} {E0 E : Env} {w' : World} {rb : Nat} (h : Stepped E.w w' rb) (hx : E.x rb) (k : Ext m E0 (outE rb E)) : Ext m E0 (outE rb ⟨w', E.s, E.n, E.x⟩) where
  os := h.os.trans k.os
  tape := h.tape.trans k.tape
  output := h.output.trans k.output
  size := by show _ ≤ w'.heap.size; rw [h.size]; exact k.size
  keep := fun b hb => by
    obtain ⟨h1, h2⟩ := k.keep b hb
    exact ⟨(h.keep b fun e => h2.2.2 (by rw [e]; exact hx)).trans h1, by show b < w'.heap.size; rw [h.size]; exact h2.1, h2.2⟩
  ids := k.ids
  room := fun b cs e fr hb => by
    obtain ⟨c1, h1, e1⟩ := k.room b cs e fr hb
    obtain ⟨c2, h2, e2⟩ := h.room b c1 e fr h1
    exact ⟨c2, h2, e2.trans e1⟩
  m := k.m
  x := k.x
  keepx := fun b hb => by
    have h1 := (k.x b).2 hb
    exact (h.keep b ((outE_out b).1 h1).1).trans (k.keepx b hb)
def mapR (ms : Array MapEntry) (ck : Nat) : Env → Loc → Prop := fun E l => E.w.heap[l.b]? = some (.map ms ck)
/-- What is so of a loop through a map: E1: where it began. -/
structure MapI (m rb mid : Nat) (E0 E1 : Env) (es : List (Int × AV)) (ms : Array MapEntry) (ck : Nat) (lm : Loc) (E : Env) (done : List Int) (seen : Array Nat) : Prop where
  out : E.out rb
  iter : ∃ c0, E.w.heap[rb]? = some (.mapIter (some lm.b) ck seen c0) ∧ ck ≤ c0
  grow : Grow E1 E
  ext : Ext m E0 (outE rb E)
  done : ∀ (i : Nat) x mm, es[i]? = some x → ms[i]? = some mm → (seen.contains mm.born = true ↔ x.1 ∈ done)
structure MapB (rb mid : Nat) (E1 : Env) (es : List (Int × AV)) (ms : Array MapEntry) (ck : Nat) (lm : Loc) : Prop where
  mok : MOk ms ck
  len : ms.size = es.length
  at_ : ∀ (i : Nat) x m, es[i]? = some x → ms[i]? = some m → m.key = .int .i64 x.1 ∧ VRel E1 x.2 m.val
  ilt : mid < E1.n
  loc : E1.s mid = some lm
  nd : (es.map (·.1)).Nodup
theorem MapI.map {m rb mid : Nat} {E0 E1 E : Env} {es : List (Int × AV)} {ms : Array MapEntry} {ck : Nat} {lm : Loc} {done : List Int} {seen : Array Nat} (B : MapB rb mid E1 es ms ck lm) (h : MapI m rb mid E0 E1 es ms ck lm E done seen) {H : List AObj} (hH : HRel E H) (ht : H[mid]? = some (.thing es (mapR ms ck))) :
    E.s mid = some lm ∧ E.w.heap[lm.b]? = some (.map ms ck) := by
  obtain ⟨l, hl, hr⟩ := hH.get ht (by simp)
  have e := h.grow.ids mid l B.ilt hl
  rw [B.loc] at e; cases e
  refine ⟨hl, ?_⟩
  cases hr with
  | thing hb hR => exact hR E (Later.refl _ _)
theorem MapI.go {m m1 rb mid : Nat} {E0 E1 E E2 : Env} {es : List (Int × AV)} {ms : Array MapEntry} {ck : Nat} {lm : Loc} {done : List Int} {seen : Array Nat} (h : MapI m rb mid E0 E1 es ms ck lm E done seen) (k : Ext m1 E E2) (h1 : E1.n ≤ m1) (h2 : m ≤ m1) : MapI m rb mid E0 E1 es ms ck lm E2 done seen := by
  obtain ⟨c0, h3, h4⟩ := h.iter
  exact ⟨(k.x rb).2 h.out, ⟨c0, (k.keepx rb h.out).trans h3, h4⟩, h.grow.ext k h1, outE_ext h.ext k h2, h.done⟩
theorem Grow.trans {E E1 E2 : Env} (g : Grow E E1) (k : Grow E1 E2) : Grow E E2 where
  keep := fun b hb => by
    obtain ⟨h1, h2⟩ := g.keep b hb
    obtain ⟨k1, k2⟩ := k.keep b h2
    exact ⟨k1.trans h1, k2⟩
  ids := fun id l hid hl => g.ids id l hid (k.ids id l (Nat.lt_of_lt_of_le hid g.n) hl)
  room := fun b cs e fr hb => by
    obtain ⟨c1, h1, e1⟩ := g.room b cs e fr hb
    obtain ⟨c2, h2, e2⟩ := k.room b c1 e fr h1
    exact ⟨c2, h2, e2.trans e1⟩
  n := Nat.le_trans g.n k.n
/-- The map is one's own again. -/
theorem MapI.back {m rb mid : Nat} {E0 E1 E : Env} {es : List (Int × AV)} {ms : Array MapEntry} {ck : Nat} {lm : Loc} {done : List Int} {seen : Array Nat} {nt : Nat} (B : MapB rb mid E1 es ms ck lm) (h : MapI m rb mid E0 E1 es ms ck lm E done seen) {s : AS} {a : Act} (hs : SRel nt E s a) (ht : s.hp[mid]? = some (.thing es (mapR ms ck))) :
    SRel nt (outE rb E) ⟨s.tm, s.hp.set mid (.imap es)⟩ a := by
  obtain ⟨hl, hb⟩ := h.map B hs.hp ht
  have hH := hs.hp
  have g : Grow E (outE rb E) := ⟨fun b hb => ⟨rfl, hb⟩, fun _ _ _ h => h, fun b cs e fr hb => ⟨cs, hb, rfl⟩, Nat.le_refl _⟩
  refine ⟨hs.defers, hs.len, fun i => (hs.tm i).grow g, ⟨by simp [outE, hH.n], fun id l hl' => ?_, fun id o ho hd => ?_, hH.inj, hH.apart, hH.xlt⟩⟩
  · have hne : l.b ≠ rb := fun e => hH.apart id l hl' (by rw [e]; exact h.out.1)
    by_cases hid : id = mid
    · subst hid
      have hl' : E.s id = some l := hl'
      rw [hl] at hl'; cases hl'
      refine ⟨.imap es, List.getElem?_set_self (List.getElem?_eq_some_iff.1 ht).1, .imap ms ck hb B.mok B.len fun i x mm h1 h2 => ?_⟩
      obtain ⟨k1, k2⟩ := B.at_ i x mm h1 h2
      exact ⟨k1, (k2.grow h.grow).grow g⟩
    · obtain ⟨o, h1, h2⟩ := hH.has id l hl'
      exact ⟨o, by rw [List.getElem?_set_ne (fun e => hid e.symm)]; exact h1, h2.grow g (Nat.le_refl _) rfl fun b => ⟨fun _ => rfl, outE_inn hne h.out.2 b⟩⟩
  · by_cases hid : id = mid
    · subst hid; exact ⟨lm, hl⟩
    · rw [List.getElem?_set_ne (fun e => hid e.symm)] at ho
      exact hH.live id o ho hd
theorem roundIs_spec {it nx q en e0 e1 k v b1 b0 : Nat} {p : Code → Bool} {x : Code} (h : roundIs it nx q en e0 e1 k v b1 b0 p x = true) : ∃ i5 i6 o5 o6 c', x = .block b0 (.loop (.seq (.region i5 o5 false) (.seq (.cond (.tmp q) .skip (.exit b0)) (.block b1 (.seq (.region i6 o6 false) c'))))) ∧ p c' = true ∧
    (∃ n1 n2, o5.toList = [n1, n2] ∧ nextIs n1 it nx = true ∧ extIs n2 nx q 0 = true) ∧ ∃ p1 p2 p3 p4 p5, o6.toList = [p1, p2, p3, p4, p5] ∧ entryIs p1 it en = true ∧ extIs p2 en e0 0 = true ∧ extIs p3 en e1 1 = true ∧ asgIs p4 e0 k = true ∧ asgIs p5 e1 v = true := by
  unfold roundIs at h
  split at h
  · rename_i b _ o5 q' b' b1' _ o6 c
    simp only [Bool.and_eq_true, beq_iff_eq] at h
    obtain ⟨⟨⟨⟨⟨⟨rfl, rfl⟩, rfl⟩, rfl⟩, hp⟩, h5⟩, h6⟩ := h
    refine ⟨_, _, o5, o6, c, rfl, hp, ?_, ?_⟩
    · split at h5
      · rename_i n1 n2 e
        simp only [Bool.and_eq_true] at h5
        exact ⟨n1, n2, e, h5⟩
      · cases h5
    · split at h6
      · rename_i p1 p2 p3 p4 p5 e
        simp only [Bool.and_eq_true] at h6
        obtain ⟨⟨⟨⟨h7, h8⟩, h9⟩, h10⟩, h11⟩ := h6
        exact ⟨p1, p2, p3, p4, p5, e, h7, h8, h9, h10, h11⟩
      · cases h6
  · cases h
theorem rangeIs_spec {P : Program} {o : Option Oper} {r it : Nat} (h : rangeIs P o r it = true) : ∃ o' t, o = some o' ∧ o'.dst = some it ∧ o'.guard = none ∧ o'.op = .range t (.tmp r) ∧ mapIs P t = true := by
  unfold rangeIs at h
  split at h
  · rename_i o'
    simp only [Bool.and_eq_true, beq_iff_eq, Option.isNone_iff_eq_none] at h
    obtain ⟨⟨h1, h2⟩, h3⟩ := h
    split at h3
    · rename_i t r' e
      simp only [Bool.and_eq_true, beq_iff_eq] at h3
      obtain ⟨rfl, h3⟩ := h3
      exact ⟨o', t, rfl, h1, h2, e, h3⟩
    · cases h3
  · cases h
theorem nextIs_spec {o : Oper} {it nx : Nat} (h : nextIs o it nx = true) : o.dst = some nx ∧ o.guard = none ∧ o.op = .next (.tmp it) false := by
  unfold nextIs at h
  simp only [Bool.and_eq_true, beq_iff_eq, Option.isNone_iff_eq_none] at h
  obtain ⟨⟨h1, h2⟩, h3⟩ := h
  split at h3
  · rename_i e; simp at h3; subst h3; exact ⟨h1, h2, e⟩
  · cases h3
theorem entryIs_spec {o : Oper} {it en : Nat} (h : entryIs o it en = true) : o.dst = some en ∧ o.guard = none ∧ o.op = .entry (.tmp it) := by
  unfold entryIs at h
  simp only [Bool.and_eq_true, beq_iff_eq, Option.isNone_iff_eq_none] at h
  obtain ⟨⟨h1, h2⟩, h3⟩ := h
  split at h3
  · rename_i e; simp at h3; subst h3; exact ⟨h1, h2, e⟩
  · cases h3
theorem extIs_spec {o : Oper} {x d i : Nat} (h : extIs o x d i = true) : o.dst = some d ∧ o.guard = none ∧ o.op = .extract (.tmp x) i := by
  unfold extIs at h
  simp only [Bool.and_eq_true, beq_iff_eq, Option.isNone_iff_eq_none] at h
  obtain ⟨⟨h1, h2⟩, h3⟩ := h
  split at h3
  · rename_i e; simp at h3; obtain ⟨rfl, rfl⟩ := h3; exact ⟨h1, h2, e⟩
  · cases h3
theorem asgIs_spec {o : Oper} {x d : Nat} (h : asgIs o x d = true) : o.dst = some d ∧ o.guard = none ∧ o.op = .assign (.tmp x) := by
  unfold asgIs at h
  simp only [Bool.and_eq_true, beq_iff_eq, Option.isNone_iff_eq_none] at h
  obtain ⟨⟨h1, h2⟩, h3⟩ := h
  split at h3
  · rename_i e; simp at h3; subst h3; exact ⟨h1, h2, e⟩
  · cases h3
/-- An operation without a guard that gives a value. -/
theorem wpList_val {P : Program} {ops : Array Oper} {Q : Exit → Act → World → Prop} {o : Oper} {l : List Oper} {a : Act} {w w' : World} {v : Value} (hg : o.guard = none) (h : (execOp a.eval o).run P w = .ok (.value v) w') (hn : wpList P ops Q l (a.put o.dst v) w') : wpList P ops Q (o :: l) a w :=
  wpList_plain hg fun K hK => by
    unfold Oper.wp
    rw [h]
    exact hK _ _ hn
theorem eval_tmp (a : Act) (t : Nat) : a.eval (.tmp t) = a.tmps.getD t undef := rfl

section
variable {P : Program} {Γ : FuncId → Ctr} {nt m : Nat}

theorem Weak.refl (s : AS) : Weak m s s := fun nt E a h hm => ⟨E, rfl, h, Ext.refl hm⟩

/-- Out of a proof about states: a post of frames and worlds. -/
def PostC (nt m : Nat) (E0 : Env) (Q : Exit → AS → Prop) : Exit → Act → World → Prop := fun e a w => ∃ E s, E.w = w ∧ SRel nt E s a ∧ Ext m E0 E ∧ Q e s

theorem PostC.mono {E0 : Env} {Q Q' : Exit → AS → Prop} (h : ∀ e s, Q e s → Q' e s) {e : Exit} {a : Act} {w : World} (k : PostC nt m E0 Q e a w) : PostC nt m E0 Q' e a w := by
  obtain ⟨E, s, h1, h2, h3, h4⟩ := k
  exact ⟨E, s, h1, h2, h3, h _ _ h4⟩

/-- A post that has been entered holds from the elder state on. -/
theorem PostC.up {E0 E : Env} {Q : Exit → AS → Prop} (hx : Ext m E0 E) {e : Exit} {a : Act} {w : World} (k : PostC nt m E Q e a w) : PostC nt m E0 Q e a w := by
  obtain ⟨E', s, h1, h2, h3, h4⟩ := k
  exact ⟨E', s, h1, h2, hx.trans h3, h4⟩

theorem look2 {tm : List (Nat × AV)} {ks : List Nat} {k v : Nat} {x y : AV} (i : Nat) : look1 (ins (ins (only tm ks) k x) v y) i = if v = i then y else if k = i then x else if ks.contains i = true then look1 tm i else .any := by
  rw [look1_ins, look1_ins, look1_only]
set_option maxHeartbeats 4000000 in
theorem ranged_sound {E0 E1 : Env} {s1 : AS} {a1 : Act} {mid it nx q en e0 e1 k v b1 b0 : Nat} {es : List (Int × AV)} {keep : List Nat} {body : (Exit → AS → Prop) → AS → Prop} {Q : Exit → AS → Prop} {c' : Code} {x : Code} {o : Oper} {ops : Array Oper} {r : Nat}
    (hs : SRel nt E1 s1 a1) (hx : Ext m E0 E1) (hm1 : look1 s1.tm r = .map mid) (hm2 : s1.hp[mid]? = some (.imap es)) (hR : Ranged s1.hp.length mid es it k v keep b1 b0 body Q s1)
    (hbody : ∀ (Q' : Exit → AS → Prop) s, body Q' s → ∀ E0 E a, SRel nt E s a → Ext s1.hp.length E0 E → c'.wp P (PostC nt s1.hp.length E0 Q') a E.w)
    (ho : rangeIs P (some o) r it = true) (hnd : [it, nx, q, en, e0, e1, k, v].Nodup) (hlt : ∀ t ∈ [it, nx, q, en, e0, e1, k, v], t < nt) (hkeep : ∀ t ∈ keep, t ∉ [it, nx, q, en, e0, e1, k, v])
    (hround : ∃ i5 i6 o5 o6, x = .block b0 (.loop (.seq (.region i5 o5 false) (.seq (.cond (.tmp q) .skip (.exit b0)) (.block b1 (.seq (.region i6 o6 false) c'))))) ∧ (∃ n1 n2, o5.toList = [n1, n2] ∧ nextIs n1 it nx = true ∧ extIs n2 nx q 0 = true) ∧
      ∃ p1 p2 p3 p4 p5, o6.toList = [p1, p2, p3, p4, p5] ∧ entryIs p1 it en = true ∧ extIs p2 en e0 0 = true ∧ extIs p3 en e1 1 = true ∧ asgIs p4 e0 k = true ∧ asgIs p5 e1 v = true) :
    wpList P ops (Exit.then (x.wp P (PostC nt m E0 Q)) (PostC nt m E0 Q)) [o] a1 E1.w := by
  obtain ⟨hnodup, hR⟩ := hR
  obtain ⟨o', t, e', ho1, ho2, ho3, ho4⟩ := rangeIs_spec ho
  cases e'
  have hv := hs.tm r
  rw [hm1] at hv
  obtain ⟨lm, hlm, hval, hor⟩ := hv.map_inv hs.hp hm2 (by simp)
  cases hor with
  | imap ms ck hb hmo hml hmk =>
  obtain ⟨tk, te, tq, hte, _⟩ := mapIs_run ho4
  have hitlt : it < nt := hlt it (by simp)
  have hrun : (execOp a1.eval o).run P E1.w = .ok (.value (.pointer (some ⟨E1.w.heap.size, 0, none⟩))) (E1.w.alloc (.mapIter (some lm.b) ck #[] ck)) := by
    simp [execOp, ho3, eval_tmp, hval, Instr.range, run_underlying hte, run_getObj hb, newObj, Sem.run]
  refine wpList_val ho2 hrun ?_
  show x.wp P (PostC nt m E0 Q) (a1.put o.dst _) _
  rw [ho1]
  generalize hpv : (Value.pointer (some ⟨E1.w.heap.size, 0, none⟩)) = pv
  generalize hrb : E1.w.heap.size = rb at *
  obtain ⟨I, ⟨s', hw, hI⟩, hstep⟩ := hR pv (mapR ms ck)
  have hn1 : s1.hp.length = E1.n := hs.hp.n.symm
  have hrb0 : ∀ b, E1.x b → b ≠ rb := fun b hb => by have := hs.hp.xlt b hb; omega
  have tt : Turned E1.w (E1.w.alloc (.mapIter (some lm.b) ck #[] ck)) (fun _ => False) := .push _ rfl rfl rfl rfl
  have hnew : (E1.w.alloc (.mapIter (some lm.b) ck #[] ck)).heap[rb]? = some (.mapIter (some lm.b) ck #[] ck) := by
    rw [← hrb]; exact heap_alloc_new _ _
  let E2 : Env := ⟨E1.w.alloc (.mapIter (some lm.b) ck #[] ck), E1.s, E1.n, ⟨fun b => E1.x b ∨ b = rb, fun b => if b = rb then none else E1.x.r b⟩⟩
  have g12 : Grow E1 E2 := ⟨fun b hb => ⟨tt.keep b hb.1 (fun h => h), Nat.lt_of_lt_of_le hb.1 tt.size, hb.2.1, fun h => by
    rcases h with h | h
    · exact hb.2.2 h
    · have := hb.1; omega⟩, fun _ _ _ h => h, tt.room, Nat.le_refl _⟩
  have inn12 : ∀ k b, E2.inn k b ↔ E1.inn k b := fun k b => by
    constructor
    · rintro ⟨h1, h2⟩
      have h2 : (if b = rb then none else E1.x.r b) = some k := h2
      split at h2
      · cases h2
      · rename_i hne; exact ⟨h1.resolve_right hne, h2⟩
    · rintro ⟨h1, h2⟩
      exact ⟨.inl h1, (if_neg (hrb0 b h1)).trans h2⟩
  have hH2 : HRel E2 (s1.hp.set mid (.thing es (mapR ms ck))) := by
    have hH := hs.hp
    refine ⟨by simp [E2, hH.n], fun id l hl => ?_, fun id o ho hd => ?_, hH.inj, fun id l hl hxx => ?_, fun b hxx => ?_⟩
    · by_cases hid : id = mid
      · subst hid
        have hl' : E1.s id = some l := hl
        rw [hlm] at hl'; cases hl'
        refine ⟨_, List.getElem?_set_self (List.getElem?_eq_some_iff.1 hm2).1, .thing (Nat.lt_of_lt_of_le (hH.own_lt hlm) tt.size) fun E' h' => ?_⟩
        exact (h'.blk _ (.inl rfl)).trans ((tt.keep _ (hH.own_lt hlm) (fun h => h)).trans hb)
      · obtain ⟨o, h1, h2⟩ := hH.has id l hl
        exact ⟨o, by rw [List.getElem?_set_ne (fun e => hid e.symm)]; exact h1, h2.grow g12 tt.size (tt.keep _ h2.lt (fun h => h)) fun b => ⟨fun hb => tt.keep b (hH.xlt b hb.1) (fun h => h), inn12 _ b⟩⟩
    · by_cases hid : id = mid
      · subst hid; exact ⟨lm, hlm⟩
      · rw [List.getElem?_set_ne (fun e => hid e.symm)] at ho
        exact hH.live id o ho hd
    · rcases hxx with hxx | hxx
      · exact hH.apart id l hl hxx
      · have := hH.own_lt hl; omega
    · rcases hxx with hxx | hxx
      · exact Nat.lt_of_lt_of_le (hH.xlt b hxx) tt.size
      · subst hxx; exact (Array.getElem?_eq_some_iff.1 hnew).1
  have hs2 : SRel nt E2 ⟨ins (only s1.tm keep) it (.val pv), s1.hp.set mid (.thing es (mapR ms ck))⟩ (a1.put (some it) pv) := by
    refine ⟨hs.defers, by simp [Act.put, hs.len], fun i => ?_, hH2⟩
    rw [getD_put (by rw [hs.len]; intro t ht; cases ht; exact hitlt), look1_ins, look1_only]
    by_cases hi : it = i
    · subst hi; simp; exact .val pv
    · have : ¬ (some it = some i) := fun h => hi (Option.some.inj h)
      rw [if_neg hi, if_neg this]
      split
      · exact (hs.tm i).grow g12
      · exact .any _
  obtain ⟨E3, e3, hs3, hx3⟩ := hw nt E2 _ hs2 (by show s1.hp.length ≤ E1.n; omega)
  have hmE : m ≤ s1.hp.length := by have := hx.m; omega
  have ext2 : Ext m E0 (outE rb E2) := by
    refine ⟨tt.os.trans hx.os, tt.tape.trans hx.tape, tt.output.trans hx.output, Nat.le_trans hx.size tt.size, fun b hb => ?_, hx.ids, fun b cs e fr hb => ?_, hx.m, fun b => ?_, fun b hb => ?_⟩
    · obtain ⟨h1, h2⟩ := hx.keep b hb
      obtain ⟨h3, h4⟩ := g12.keep b h2
      exact ⟨h3.trans h1, h4⟩
    · obtain ⟨c1, h1, e1⟩ := hx.room b cs e fr hb
      obtain ⟨c2, h2, e2⟩ := tt.room b c1 e fr h1
      exact ⟨c2, h2, e2.trans e1⟩
    · rw [outE_out, ← hx.x b]
      constructor
      · rintro ⟨h1, h2, h3⟩
        exact ⟨h2.resolve_right h1, (if_neg h1).symm.trans h3⟩
      · rintro ⟨h1, h2⟩
        exact ⟨hrb0 b h1, .inl h1, (if_neg (hrb0 b h1)).trans h2⟩
    · have h1 := (hx.x b).2 hb
      exact (tt.keep b (hs.hp.xlt b h1.1) (fun h => h)).trans (hx.keepx b hb)
  have B : MapB rb mid E1 es ms ck lm := ⟨hmo, hml, hmk, hs.hp.id_lt hlm, hlm, hnodup⟩
  have hout2 : E2.out rb := ⟨.inr rfl, if_pos rfl⟩
  have start : MapI m rb mid E0 E1 es ms ck lm E3 [] #[] := by
    refine ⟨(hx3.x rb).2 hout2, ⟨ck, by rw [e3]; exact hnew, Nat.le_refl _⟩, g12.ext hx3 (by omega), outE_ext ext2 hx3 hmE, fun i y mm _ _ => by simp⟩
  -- the loop
  obtain ⟨i5, i6, o5, o6, rfl, ⟨n1, n2, ho5, hn1', hn2'⟩, p1, p2, p3, p4, p5, ho6, hp1, hp2, hp3, hp4, hp5⟩ := hround
  have hsz : (a1.put (some it) pv).tmps.size = nt := hs2.len
  have e3' : E3.w = E1.w.alloc (.mapIter (some lm.b) ck #[] ck) := e3
  rw [← e3']
  refine wp_block (wp_loopN (fun n a w => ∃ E s done seen, E.w = w ∧ SRel nt E s a ∧ I done s ∧ MapI m rb mid E0 E1 es ms ck lm E done seen ∧ n = (leftOf ms seen).size) (fun n a w hJ => ?_) ⟨E3, s', [], #[], rfl, hs3, hI, start, rfl⟩)
  obtain ⟨E, s, done, seen, rfl, hsE, hIs, hMI, rfl⟩ := hJ
  obtain ⟨⟨hitv, hthing⟩, hbodyI, hendI⟩ := hstep done s hIs
  have hitv2 : a.eval (.tmp it) = .pointer (some ⟨rb, 0, none⟩) := by
    have := hsE.tm it
    rw [hitv] at this
    rw [eval_tmp, hpv]
    cases this; rfl
  obtain ⟨hmidE, hmapE⟩ := hMI.map B hsE.hp hthing
  obtain ⟨c0, hiter, hck⟩ := hMI.iter
  have hold : ∀ y ∈ ms.toList, y.born < ck := fun y hy => by
    obtain ⟨j, hj⟩ := List.mem_iff_getElem?.1 hy
    exact hmo.old j y (by simpa using hj)
  obtain ⟨d1, g1, op1⟩ := nextIs_spec hn1'
  obtain ⟨d2, g2, op2⟩ := extIs_spec hn2'
  simp only [List.nodup_cons, List.mem_cons, List.not_mem_nil, not_or, or_false] at hnd
  obtain ⟨⟨n_it_nx, n_it_q, n_it_en, n_it_e0, n_it_e1, n_it_k, n_it_v⟩, ⟨n_nx_q, _⟩, _, ⟨n_en_e0, n_en_e1, _⟩, ⟨n_e0_e1, n_e0_k, n_e0_v⟩, ⟨n_e1_k, n_e1_v⟩, n_k_v, _⟩ := hnd
  have lnx : nx < nt := hlt nx (by simp)
  have lq : q < nt := hlt q (by simp)
  have len : en < nt := hlt en (by simp)
  have le0 : e0 < nt := hlt e0 (by simp)
  have le1 : e1 < nt := hlt e1 (by simp)
  have lk : k < nt := hlt k (by simp)
  have lv : v < nt := hlt v (by simp)
  have nk : ∀ t ∈ [it, nx, q, en, e0, e1, k, v], t ≠ it → (it :: keep).contains t = false := fun t ht hne => by
    cases hc : (it :: keep).contains t
    · rfl
    · have := List.contains_iff_mem.1 hc
      rcases List.mem_cons.1 this with h | h
      · exact absurd h hne
      · exact absurd ht (hkeep t h)
  have sz : ∀ (a : Act) d (v : Value), a.tmps.size = nt → (a.put (some d) v).tmps.size = nt := fun a d v h => by simp [Act.put, h]
  have pt : ∀ (a : Act) d (v : Value) i, a.tmps.size = nt → d < nt → (a.put (some d) v).eval (.tmp i) = if d = i then v else a.eval (.tmp i) := fun a d v i h hd => by
    rw [eval_tmp, getD_put (by rw [h]; intro t ht; cases ht; exact hd), eval_tmp]
    simp only [Option.some.injEq]
  have hl0 := hsE.len
  refine wp_seq (wp_region_list ?_)
  rw [ho5]
  rcases run_next_at (P := P) E.w n1.type rb lm.b ck c0 seen ms ck hiter hmapE hold hck with ⟨h0, hrun5⟩ | ⟨e, he, w1, hal, hrun5⟩
  · -- nothing is left
    have r1 : (execOp a.eval n1).run P E.w = .ok (.value (.tuple #[.bool false])) E.w := by
      simp [execOp, op1, hitv2, hrun5]
    refine wpList_val g1 r1 ?_
    rw [d1]
    have r2 : (execOp (a.put (some nx) (.tuple #[.bool false])).eval n2).run P E.w = .ok (.value (.bool false)) E.w := by
      simp [execOp, op2, pt a nx _ nx hl0 lnx, Instr.extract]
    refine wpList_val g2 r2 ?_
    rw [d2]
    have hl1 := sz a nx (.tuple #[.bool false]) hl0
    refine wp_seq (wp_cond_false (by rw [pt _ q _ q hl1 lq, if_pos rfl]) (wp_exit ?_))
    show (if b0 = b0 then _ else _)
    rw [if_pos rfl]
    have hall : ∀ y ∈ es, y.1 ∈ done := fun y hy => by
      obtain ⟨j, hj⟩ := List.mem_iff_getElem?.1 hy
      have hjl := (List.getElem?_eq_some_iff.1 hj).1
      have hm : ms[j]? = some (ms[j]'(by omega)) := Array.getElem?_eq_getElem (by omega)
      exact (hMI.done j y _ hj hm).1 (all_seen ms seen h0 _ (Array.mem_toList_iff.2 (Array.getElem_mem _)))
    have hs' : SRel nt E ⟨only s.tm (it :: keep), s.hp⟩ ((a.put (some nx) (.tuple #[.bool false])).put (some q) (.bool false)) := by
      refine ⟨hsE.defers, sz _ _ _ hl1, fun i => ?_, hsE.hp⟩
      have hi := pt (a.put (some nx) (.tuple #[.bool false])) q (.bool false) i hl1 lq
      rw [pt a nx _ i hl0 lnx] at hi
      rw [eval_tmp, eval_tmp] at hi
      rw [hi, look1_only]
      by_cases h1 : q = i
      · subst h1; rw [nk q (by simp) (Ne.symm n_it_q)]; exact .any _
      · rw [if_neg h1]
        by_cases h2 : nx = i
        · subst h2; rw [nk nx (by simp) (Ne.symm n_it_nx)]; exact .any _
        · rw [if_neg h2]
          split
          · exact hsE.tm i
          · exact .any _
    exact ⟨outE rb E, _, rfl, hMI.back B hs' hthing, hMI.ext, hendI hall⟩
  · -- an entry has come
    obtain ⟨hem, hes⟩ := mem_left he
    obtain ⟨j, hj⟩ := List.mem_iff_getElem?.1 hem
    have hj' : ms[j]? = some e := by simpa using hj
    have hjl := (Array.getElem?_eq_some_iff.1 hj').1
    have hx1 : es[j]? = some (es[j]'(by omega)) := List.getElem?_eq_getElem (by omega)
    generalize es[j]'(by omega) = y at hx1
    obtain ⟨hkey, hval1⟩ := hmk j y e hx1 hj'
    have hyd : y.1 ∉ done := fun h => by
      have := (hMI.done j y e hx1 hj').2 h
      rw [hes] at this; cases this
    have hw1r : w1.heap[rb]? = some (.mapIter (some lm.b) ck seen c0) := by rcases hal with rfl | rfl <;> exact hiter
    have hw1b : w1.heap[lm.b]? = some (.map ms ck) := by rcases hal with rfl | rfl <;> exact hmapE
    have hset := Go.MapKept.heap_set (o' := .mapIter (some lm.b) ck (seen.push e.born) ck) hw1r
    have hne : lm.b ≠ rb := fun h => hsE.hp.apart mid lm hmidE (by rw [h]; exact hMI.out.1)
    generalize hw3 : Go.ChangeMaps.setBlock w1 rb (.mapIter (some lm.b) ck (seen.push e.born) ck) = w3 at hrun5
    have h3r : w3.heap[rb]? = some (.mapIter (some lm.b) ck (seen.push e.born) ck) := by rw [← hw3]; exact hset.1
    have h3b : w3.heap[lm.b]? = some (.map ms ck) := by rw [← hw3]; exact (hset.2 _ hne).trans hw1b
    have st : Stepped E.w w3 rb := by
      rw [← hw3]
      refine ⟨by rcases hal with rfl | rfl <;> rfl, by rcases hal with rfl | rfl <;> rfl, by rcases hal with rfl | rfl <;> rfl, by rcases hal with rfl | rfl <;> simp [Go.ChangeMaps.setBlock], fun b hb => ?_, fun cs e' fr h => by rw [hiter] at h; cases h⟩
      rcases hal with rfl | rfl <;> exact hset.2 b hb
    have r1 : (execOp a.eval n1).run P E.w = .ok (.value (.tuple #[.bool true, e.key, e.val])) w3 := by
      simp [execOp, op1, hitv2, hrun5]
    refine wpList_val g1 r1 ?_
    rw [d1]
    have r2 : (execOp (a.put (some nx) (.tuple #[.bool true, e.key, e.val])).eval n2).run P w3 = .ok (.value (.bool true)) w3 := by
      simp [execOp, op2, pt a nx _ nx hl0 lnx, Instr.extract]
    refine wpList_val g2 r2 ?_
    rw [d2]
    have hl1 := sz a nx (.tuple #[.bool true, e.key, e.val]) hl0
    generalize ha1 : a.put (some nx) (.tuple #[.bool true, e.key, e.val]) = A1 at *
    have hl2 := sz A1 q (.bool true) hl1
    refine wp_seq (wp_cond_true (by rw [pt _ q _ q hl1 lq, if_pos rfl]) (wp_skip ?_))
    generalize ha2 : A1.put (some q) (.bool true) = A2 at *
    have hit2 : A2.eval (.tmp it) = .pointer (some ⟨rb, 0, none⟩) := by
      rw [← ha2, pt _ q _ it hl1 lq, if_neg (Ne.symm n_it_q), ← ha1, pt _ nx _ it hl0 lnx, if_neg (Ne.symm n_it_nx)]
      exact hitv2
    refine wp_block (wp_seq (wp_region_list ?_))
    rw [ho6]
    obtain ⟨f1, h1, q1⟩ := entryIs_spec hp1
    obtain ⟨f2, h2, q2⟩ := extIs_spec hp2
    obtain ⟨f3, h3, q3⟩ := extIs_spec hp3
    obtain ⟨f4, h4, q4⟩ := asgIs_spec hp4
    obtain ⟨f5, h5, q5⟩ := asgIs_spec hp5
    have hborn : (ms.toList.map (·.born)).Nodup := by
      rw [List.nodup_iff_pairwise_ne, List.pairwise_iff_getElem]
      intro i1 i2 hi1 hi2 hlt12 e12
      simp at hi1 hi2 e12
      have := hmo.once i1 i2 _ _ (Array.getElem?_eq_getElem hi1) (Array.getElem?_eq_getElem hi2) e12
      omega
    have r3 : (execOp A2.eval p1).run P w3 = .ok (.value (.tuple #[e.key, e.val])) w3 := by
      simp [execOp, q1, hit2, run_entry_at w3 rb lm.b ck seen ms ck e h3r h3b hem hborn]
    refine wpList_val h1 r3 ?_
    rw [f1]
    have hl3 := sz A2 en (.tuple #[e.key, e.val]) hl2
    have r4 : (execOp (A2.put (some en) (.tuple #[e.key, e.val])).eval p2).run P w3 = .ok (.value e.key) w3 := by
      simp [execOp, q2, pt A2 en _ en hl2 len, Instr.extract]
    refine wpList_val h2 r4 ?_
    rw [f2]
    generalize ha3 : A2.put (some en) (.tuple #[e.key, e.val]) = A3 at *
    have hl4 := sz A3 e0 e.key hl3
    have r5 : (execOp (A3.put (some e0) e.key).eval p3).run P w3 = .ok (.value e.val) w3 := by
      have ev : (A3.put (some e0) e.key).eval (.tmp en) = .tuple #[e.key, e.val] := by rw [pt A3 e0 _ en hl3 le0, if_neg (Ne.symm n_en_e0), ← ha3, pt A2 en _ en hl2 len, if_pos rfl]
      simp [execOp, q3, ev, Instr.extract]
    refine wpList_val h3 r5 ?_
    rw [f3]
    generalize ha4 : A3.put (some e0) e.key = A4 at *
    have hl5 := sz A4 e1 e.val hl4
    have r6 : (execOp (A4.put (some e1) e.val).eval p4).run P w3 = .ok (.value e.key) w3 := by
      have ev : (A4.put (some e1) e.val).eval (.tmp e0) = e.key := by rw [pt A4 e1 _ e0 hl4 le1, if_neg (Ne.symm n_e0_e1), ← ha4, pt A3 e0 _ e0 hl3 le0, if_pos rfl]
      simp [execOp, q4, ev]
    refine wpList_val h4 r6 ?_
    rw [f4]
    generalize ha5 : A4.put (some e1) e.val = A5 at *
    have hl6 := sz A5 k e.key hl5
    have r7 : (execOp (A5.put (some k) e.key).eval p5).run P w3 = .ok (.value e.val) w3 := by
      have ev : (A5.put (some k) e.key).eval (.tmp e1) = e.val := by rw [pt A5 k _ e1 hl5 lk, if_neg (Ne.symm n_e1_k), ← ha5, pt A4 e1 _ e1 hl4 le1, if_pos rfl]
      simp [execOp, q5, ev]
    refine wpList_val h5 r7 ?_
    rw [f5]
    generalize ha6 : A5.put (some k) e.key = A6 at *
    have hl7 := sz A6 v e.val hl6
    generalize ha7 : A6.put (some v) e.val = A7 at *
    show c'.wp P _ A7 w3
    have ev7 : ∀ i, A7.eval (.tmp i) = if v = i then e.val else if k = i then e.key else A5.eval (.tmp i) := fun i => by
      rw [← ha7, pt A6 v _ i hl6 lv, ← ha6, pt A5 k _ i hl5 lk]
    have ev5 : ∀ i, (it :: keep).contains i = true → A5.eval (.tmp i) = a.eval (.tmp i) := fun i hi => by
      have hne : ∀ t ∈ [it, nx, q, en, e0, e1, k, v], t ≠ it → t ≠ i := fun t ht h1 h2 => by
        have := nk t ht h1
        rw [h2, hi] at this; cases this
      rw [← ha5, pt A4 e1 _ i hl4 le1, if_neg (hne e1 (by simp) (Ne.symm n_it_e1)), ← ha4, pt A3 e0 _ i hl3 le0, if_neg (hne e0 (by simp) (Ne.symm n_it_e0)), ← ha3, pt A2 en _ i hl2 len, if_neg (hne en (by simp) (Ne.symm n_it_en)),
        ← ha2, pt A1 q _ i hl1 lq, if_neg (hne q (by simp) (Ne.symm n_it_q)), ← ha1, pt a nx _ i hl0 lnx, if_neg (hne nx (by simp) (Ne.symm n_it_nx))]
    have defs : A7.defers = [] := by
      have dp : ∀ (a : Act) d (v : Value), (a.put (some d) v).defers = a.defers := fun _ _ _ => rfl
      rw [← ha7, dp, ← ha6, dp, ← ha5, dp, ← ha4, dp, ← ha3, dp, ← ha2, dp, ← ha1, dp]; exact hsE.defers
    let E' : Env := ⟨w3, E.s, E.n, E.x⟩
    have g' : Grow E E' := st.grow hMI.out.1
    have hs7 : SRel nt E' ⟨ins (ins (only s.tm (it :: keep)) k (.int .i64 y.1)) v y.2, s.hp⟩ A7 := by
      refine ⟨defs, hl7, fun i => ?_, st.hrel hMI.out hsE.hp⟩
      rw [← eval_tmp, ev7, look2]
      by_cases h1 : v = i
      · rw [if_pos h1, if_pos h1]; exact (hval1.grow hMI.grow).grow g'
      · rw [if_neg h1, if_neg h1]
        by_cases h2 : k = i
        · rw [if_pos h2, if_pos h2, hkey]; exact .int _ _
        · rw [if_neg h2, if_neg h2]
          split
          · rename_i hc
            rw [ev5 i hc]
            exact (hsE.tm i).grow g'
          · exact .any _
    have hn : s1.hp.length ≤ E'.n := by
      have h1 := hMI.grow.n
      show s1.hp.length ≤ E.n
      omega
    have MI' : MapI m rb mid E0 E1 es ms ck lm E' (done ++ [y.1]) (seen.push e.born) := by
      refine ⟨hMI.out, ⟨ck, h3r, Nat.le_refl _⟩, hMI.grow.trans g', st.ext hMI.out.1 hMI.ext, fun i x mm h1 h2 => ?_⟩
      rw [contains_push]
      by_cases hij : i = j
      · subst hij
        rw [hx1] at h1; cases h1
        rw [hj'] at h2; cases h2
        simp
      · have hb1 : (mm.born == e.born) = false := by
          simp only [beq_eq_false_iff_ne]
          exact fun h => hij (hmo.once i j mm e h2 hj' h)
        have hk1 : x.1 ≠ y.1 := fun h => hij (by
          have h3 : (es.map (·.1))[i]? = some x.1 := by simp [h1]
          have h4 : (es.map (·.1))[j]? = some x.1 := by simp [hx1, h]
          have hl3 := (List.getElem?_eq_some_iff.1 h3).1
          have hl4 := (List.getElem?_eq_some_iff.1 h4).1
          have p3 := (List.getElem?_eq_some_iff.1 h3).2
          have p4 := (List.getElem?_eq_some_iff.1 h4).2
          rcases Nat.lt_trichotomy i j with h5 | h5 | h5
          · exact absurd (p3.trans p4.symm) ((List.pairwise_iff_getElem.1 (List.nodup_iff_pairwise_ne.1 hnodup)) i j hl3 hl4 h5)
          · exact h5
          · exact absurd (p4.trans p3.symm) ((List.pairwise_iff_getElem.1 (List.nodup_iff_pairwise_ne.1 hnodup)) j i hl4 hl3 h5))
        rw [hb1, Bool.or_false, hMI.done i x mm h1 h2]
        simp [hk1]
    refine wp_mono (hbody _ _ (hbodyI y (List.mem_of_getElem? hx1) hyd) E' E' A7 hs7 (Ext.refl hn)) fun e2 a2 w2 hp => ?_
    obtain ⟨E4, s4, rfl, k1, k2, k3⟩ := hp
    have MI4 := MI'.go k2 (by omega) hmE
    have nxt : mend s1.hp.length mid es (mapR ms ck) (it :: keep) (I (done ++ [y.1])) (blk b0 Q) .normal s4 → ∃ n', n' < (leftOf ms seen).size ∧ ∃ E s done seen, E.w = E4.w ∧ SRel nt E s a2 ∧ I done s ∧ MapI m rb mid E0 E1 es ms ck lm E done seen ∧ n' = (leftOf ms seen).size := fun ⟨s5, hw5, hI5⟩ => by
      obtain ⟨E5, e5, hs5, hx5⟩ := hw5 nt E4 a2 (k1.only _) k2.m
      exact ⟨_, left_shrinks ms seen e he, E5, s5, done ++ [y.1], seen.push e.born, e5, hs5, hI5, MI4.go hx5 (by omega) hmE, rfl⟩
    cases e2 with
    | normal => exact nxt k3
    | exit id =>
      simp only [blk] at k3
      show (if id = b1 then _ else _)
      split
      · rename_i hid
        rw [if_pos hid] at k3
        exact nxt k3
      · rename_i hid
        rw [if_neg hid] at k3
        obtain ⟨k4, k5⟩ := k3
        show (if id = b0 then _ else _)
        simp only [blk] at k5
        split
        · rename_i hid2
          rw [if_pos hid2] at k5
          exact ⟨outE rb E4, _, rfl, MI4.back B k1 k4, MI4.ext, k5⟩
        · rename_i hid2
          rw [if_neg hid2] at k5
          exact ⟨outE rb E4, _, rfl, MI4.back B k1 k4, MI4.ext, k5⟩
    | _ => exact ⟨outE rb E4, _, rfl, MI4.back B k1 k3.1, MI4.ext, k3.2⟩

theorem vc_sound (hmix : P.follows .mixedOrders = true) (hG : Knows P Γ) : ∀ (ic : ICode) (m : Nat),
    (∀ c, okC P nt ic none c = true → ∀ Q s, vc Γ m ic Q s → ∀ E0 E a, SRel nt E s a → Ext m E0 E → c.wp P (PostC nt m E0 Q) a E.w) ∧
    (∀ l k c, okC P nt ic (some (l, k)) c = true → ∃ r, k r = true ∧ findLabel c l = some (.seq .skip r) ∧
      ∀ Q K s (R : Exit → Act → World → Prop), vc Γ m ic (thn K Q) s → ∀ E0 E a, SRel nt E s a → Ext m E0 E → (∀ e a w, e ≠ .normal → PostC nt m E0 Q e a w → R e a w) → (∀ E1 s1 a1, SRel nt E1 s1 a1 → Ext m E0 E1 → K s1 → r.wp P R a1 E1.w) → c.wp P R a E.w) := by
  intro ic
  induction ic with
  | skip =>
    intro m
    refine ⟨fun c hok Q s h E0 E a hs hx => ?_, fun l k c hok => ?_⟩
    · cases c <;> simp [okC] at hok
      exact wp_skip ⟨E, s, rfl, hs, hx, h⟩
    · simp [okC] at hok
  | ops id draw l =>
    intro m
    refine ⟨fun c hok Q s h E0 E a hs hx => ?_, fun l k c hok => ?_⟩
    · cases c <;> simp only [okC] at hok <;> first | (cases hok; done) | skip
      rename_i id' ops draw'
      simp only [Bool.and_eq_true, beq_iff_eq, Bool.or_eq_true, Bool.not_eq_true'] at hok
      obtain ⟨⟨⟨rfl, rfl⟩, h1⟩, h2⟩ := hok
      simp only [vc] at h
      cases draw
      · simp only [Bool.false_eq_true, if_false] at h
        exact wp_region_list (ops_sound hG _ _ h1 _ E0 E s a h hs hx fun E' s' a' g1 g2 g3 => ⟨E', s', rfl, g1, g2, g3⟩)
      · simp only [if_true] at h
        exact opsD_sound hmix hG h1 (by simpa using h2) h hs hx (fun E' s' a' g1 g2 g3 => ⟨E', s', rfl, g1, g2, g3⟩) id
    · simp [okC] at hok
  | seq p q ihp ihq =>
    intro m
    refine ⟨fun c hok Q s h E0 E a hs hx => ?_, fun l k c hok => ?_⟩
    · cases c <;> simp [okC] at hok
      rename_i x y
      refine wp_seq (wp_mono ((ihp m).1 x hok.1 _ s h E0 E a hs hx) fun e a' w' hp => ?_)
      obtain ⟨E', s', rfl, g1, g2, g3⟩ := hp
      cases e with
      | normal => exact (ihq m).1 y hok.2 Q s' g3 E0 E' a' g1 g2
      | _ => exact ⟨E', s', rfl, g1, g2, g3⟩
    · cases c <;> simp [okC] at hok
      rename_i x y
      obtain ⟨⟨h1, h2⟩, h3⟩ := hok
      obtain ⟨r, hr, hf, hw⟩ := (ihq m).2 l k y h3
      refine ⟨r, hr, by simp [findLabel, h2, hf], fun Q K s R h E0 E a hs hx hR hK => ?_⟩
      simp only [vc] at h
      refine wp_seq (wp_mono ((ihp m).1 x h1 _ s h E0 E a hs hx) fun e a' w' hp => ?_)
      obtain ⟨E', s', rfl, g1, g2, g3⟩ := hp
      cases e with
      | normal => exact hw Q K s' R g3 E0 E' a' g1 g2 hR hK
      | _ => exact hR _ _ _ (by simp) ⟨E', s', rfl, g1, g2, g3⟩
  | cond x p q ihp ihq =>
    intro m
    refine ⟨fun c hok Q s h E0 E a hs hx => ?_, fun l k c hok => ?_⟩
    · cases c <;> simp [okC] at hok
      rename_i c' y z
      obtain ⟨⟨h1, h2⟩, h3⟩ := hok
      simp only [vc] at h
      split at h
      · rename_i t ht
        have hv := hs.ev h1
        rw [ht] at hv
        have hv := hv.bool_inv
        refine wp_cond_split hv (fun e => ?_) (fun e => ?_)
        · exact (ihp m).1 y h2 Q s (h.1 e) E0 E a hs hx
        · exact (ihq m).1 z h3 Q s (h.2 e) E0 E a hs hx
      · exact h.elim
    · simp [okC] at hok
  | block id p ihp =>
    intro m
    refine ⟨fun c hok Q s h E0 E a hs hx => ?_, fun l k c hok => ?_⟩
    · cases c <;> simp [okC] at hok
      rename_i id' c'
      obtain ⟨rfl, h1⟩ := hok
      refine wp_block (wp_mono ((ihp m).1 c' h1 _ s h E0 E a hs hx) fun e a' w' hp => ?_)
      obtain ⟨E', s', rfl, g1, g2, g3⟩ := hp
      cases e with
      | exit id' =>
        simp only [blk] at g3
        simp only [Exit.inBlock]
        split <;> rename_i hid
        · rw [if_pos hid] at g3; exact ⟨E', s', rfl, g1, g2, g3⟩
        · rw [if_neg hid] at g3; exact ⟨E', s', rfl, g1, g2, g3⟩
      | _ => exact ⟨E', s', rfl, g1, g2, g3⟩
    · simp [okC] at hok
  | loop keep p ihp =>
    intro m
    refine ⟨fun c hok Q s h E0 E a hs hx => ?_, fun l k c hok => ?_⟩
    · cases c <;> simp [okC] at hok
      rename_i c'
      simp only [vc] at h
      obtain ⟨I, ⟨n, s1, hw, hI⟩, hround⟩ := h
      obtain ⟨E1, e1, hs1, hx1⟩ := hw nt E a (hs.only _) hx.m
      rw [← e1]
      refine wp_loopN (fun n a w => ∃ E s, E.w = w ∧ SRel nt E s a ∧ Ext m E0 E ∧ I n s) (fun n a w hJ => ?_) ⟨E1, s1, rfl, hs1, hx.trans hx1, hI⟩
      obtain ⟨E', s', rfl, g1, g2, g3⟩ := hJ
      refine wp_mono ((ihp m).1 c' hok _ s' (hround n s' g3) E0 E' a g1 g2) fun e a' w' hp => ?_
      obtain ⟨E2, s2, rfl, k1, k2, k3⟩ := hp
      cases e with
      | normal =>
        obtain ⟨n', s3, hlt, hw, hI⟩ := k3
        obtain ⟨E3, e3, hs3, hx3⟩ := hw nt E2 a' (k1.only _) k2.m
        exact ⟨n', hlt, E3, s3, e3, hs3, k2.trans hx3, hI⟩
      | _ => exact ⟨E2, s2, rfl, k1, k2, k3⟩
    · simp [okC] at hok
  | exit id =>
    intro m
    refine ⟨fun c hok Q s h E0 E a hs hx => ?_, fun l k c hok => ?_⟩
    · cases c <;> simp [okC] at hok
      subst hok
      exact wp_exit ⟨E, s, rfl, hs, hx, h⟩
    · simp [okC] at hok
  | scope p ihp =>
    intro m
    refine ⟨fun c hok Q s h E0 E a hs hx => ?_, fun l k c hok => ?_⟩
    · cases c <;> simp [okC] at hok
      rename_i c'
      simp only [vc] at h
      refine wp_scope_straight (wp_mono ((ihp m).1 c' hok _ s h E0 E a hs hx) fun e a' w' hp => ?_)
      obtain ⟨E', s', rfl, g1, g2, g3⟩ := hp
      cases e with
      | goto l => exact g3.elim
      | _ => exact ⟨E', s', rfl, g1, g2, g3⟩
    · simp [okC] at hok
  | back keep pre l rest ihp ihr =>
    intro m
    refine ⟨fun c hok Q s h E0 E a hs hx => ?_, fun l k c hok => ?_⟩
    · cases c <;> simp [okC] at hok
      rename_i c'
      obtain ⟨r, hr, hf, hw⟩ := (ihp m).2 l _ c' hok
      simp only [vc] at h
      obtain ⟨I, hpre, hround⟩ := h
      let J : Nat → Act → World → Prop := fun n a w => ∃ E s, E.w = w ∧ SRel nt E s a ∧ Ext m E0 E ∧ I n s
      have pass : ∀ n a w, J n a w → r.wp P (Exit.jump l (fun a' w' => ∃ n', n' < n ∧ J n' a' w') (PostC nt m E0 Q)) a w := fun n a w hJ => by
        obtain ⟨E', s', rfl, g1, g2, g3⟩ := hJ
        refine wp_mono ((ihr m).1 r hr _ s' (hround n s' g3) E0 E' a g1 g2) fun e a' w' hp => ?_
        obtain ⟨E2, s2, rfl, k1, k2, k3⟩ := hp
        cases e with
        | goto l' =>
          obtain ⟨rfl, n', s3, hlt, hw, hI⟩ := k3
          obtain ⟨E3, e3, hs3, hx3⟩ := hw nt E2 a' (k1.only _) k2.m
          exact ⟨rfl, n', hlt, E3, s3, e3, hs3, k2.trans hx3, hI⟩
        | _ => exact ⟨E2, s2, rfl, k1, k2, k3⟩
      refine wp_backN J hf (fun n a w hJ => wp_seq (wp_skip (pass n a w hJ))) ?_
      refine hw (noGo Q) _ s _ hpre E0 E a hs hx (fun e a' w' hne hp => ?_) (fun E1 s1 a1 g1 g2 g3 => ?_)
      · obtain ⟨E', s', rfl, g1, g2, g3⟩ := hp
        cases e with
        | normal => exact absurd rfl hne
        | goto l' => exact g3.elim
        | _ => exact ⟨E', s', rfl, g1, g2, g3⟩
      · obtain ⟨n, s3, hw3, hI⟩ := g3
        obtain ⟨E3, e3, hs3, hx3⟩ := hw3 nt E1 a1 (g1.only _) g2.m
        rw [← e3]
        refine wp_mono (pass n a1 E3.w ⟨E3, s3, rfl, hs3, g2.trans hx3, hI⟩) fun e a' w' hp => ?_
        cases e with
        | goto l' => obtain ⟨rfl, n', _, hJ⟩ := hp; exact ⟨rfl, n', hJ⟩
        | _ => exact hp
    · simp [okC] at hok
  | label l =>
    intro m
    refine ⟨fun c hok Q s h E0 E a hs hx => ?_, fun l k c hok => ?_⟩
    · cases c <;> simp [okC] at hok
      exact wp_label ⟨E, s, rfl, hs, hx, h⟩
    · cases c <;> first | (simp [okC] at hok; done) | skip
      rename_i x y
      cases x <;> first | (simp [okC] at hok; done) | skip
      simp [okC] at hok
      obtain ⟨⟨rfl, rfl⟩, hr⟩ := hok
      refine ⟨y, hr, by simp [findLabel], fun Q K s R h E0 E a hs hx hR hK => ?_⟩
      exact wp_seq (wp_label (hK E s a hs hx h))
  | goto l =>
    intro m
    refine ⟨fun c hok Q s h E0 E a hs hx => ?_, fun l k c hok => ?_⟩
    · cases c <;> simp [okC] at hok
      subst hok
      exact wp_goto ⟨E, s, rfl, hs, hx, h⟩
    · simp [okC] at hok
  | ret =>
    intro m
    refine ⟨fun c hok Q s h E0 E a hs hx => ?_, fun l k c hok => ?_⟩
    · cases c <;> simp [okC] at hok
      exact wp_ret ⟨E, s, rfl, hs, hx, h⟩
    · simp [okC] at hok
  | join keep p ihp =>
    intro m
    refine ⟨fun c hok Q s h E0 E a hs hx => ?_, fun l k c hok => ?_⟩
    · simp only [okC] at hok
      simp only [vc] at h
      obtain ⟨J, hp, hJ⟩ := h
      refine wp_mono ((ihp m).1 c hok _ s hp E0 E a hs hx) fun e a' w' hp => ?_
      obtain ⟨E', s', rfl, g1, g2, g3⟩ := hp
      cases e with
      | normal => exact ⟨E', _, rfl, g1.only _, g2, hJ _ g3⟩
      | _ => exact ⟨E', s', rfl, g1, g2, g3⟩
    · simp [okC] at hok

  | mrange l r it nx q en e0 e1 k v keep b1 b0 c ihp =>
    intro m
    refine ⟨fun c0 hok Q s h E0 E a hs hx => ?_, fun l k c hok => by simp [okC] at hok⟩
    obtain ⟨id, ops, y, rfl⟩ : ∃ id ops y, c0 = .seq (.region id ops false) y := by
      cases c0 with
      | seq x y =>
        cases x with
        | region id ops dr =>
          cases dr with
          | false => exact ⟨_, _, _, rfl⟩
          | true => simp [okC] at hok
        | _ => simp [okC] at hok
      | _ => simp [okC] at hok
    simp only [okC, Bool.and_eq_true, decide_eq_true_eq] at hok
    obtain ⟨⟨⟨⟨⟨h1, h2⟩, h3⟩, h4⟩, h5⟩, h6⟩ := hok
    obtain ⟨i5, i6, o5, o6, c', e6, h7, h8, h9⟩ := roundIs_spec h6
    simp only [vc] at h
    obtain ⟨o, t, e2, _⟩ := rangeIs_spec h2
    have hops : ops.toList = ops.toList.dropLast ++ [o] := by
      have h10 : ops.toList ≠ [] := fun h => by rw [h] at e2; cases e2
      rw [List.getLast?_eq_some_getLast h10] at e2
      rw [← Option.some.inj e2]
      exact (List.dropLast_concat_getLast h10).symm
    refine wp_seq (wp_region_list ?_)
    rw [hops]
    refine ops_soundT hG _ l h1 _ E0 E s a h hs hx fun E1 s1 a1 g1 g2 g3 => ?_
    obtain ⟨mid, es, k1, k2, k3⟩ := g3
    rw [e2] at h2
    exact ranged_sound g1 g2 k1 k2 k3 (fun Q' s h' E0 E a hs hx => (ihp s1.hp.length).1 c' h7 Q' s h' E0 E a hs hx) h2 h3 (fun t ht => by simpa using List.all_eq_true.1 h4 t ht) (fun t ht hm => by
      have := List.all_eq_true.1 h5 t ht
      rw [List.contains_iff_mem.2 hm] at this; cases this) ⟨i5, i6, o5, o6, e6, h8, h9⟩

theorem rdv_of {g : Option Nat} {row : List AV} {off : Nat} (h : rdp g row off) : rdv g row off = some (rdd g row off) := by
  obtain ⟨x, h1, h2⟩ := rd_iff.1 (rd_of (k := fun y => y = rdd g row off) h rfl)
  rw [h1, h2]

def resOk (P : Program) : List ResultVar → List IRes → Bool
  | [], [] => true
  | .tmp t :: l, .t n :: il => t == n && resOk P l il
  | .cell a t :: l, .cell n g :: il => a == n && aggIs P t g && resOk P l il
  | _, _ => false

def resOne (tmps : Array Value) : ResultVar → Sem Value
  | .tmp t => pure (tmps.getD t undef)
  | .cell a t => do loadVar t (← asAddr (tmps.getD a undef))

theorem resv_run {E : Env} {s : AS} {a : Act} (hs : SRel nt E s a) : ∀ (l : List ResultVar) (il : List IRes), resOk P l il = true → resp s il → ∃ ws, VRels E (resv s il) ws ∧ (l.mapM (resOne a.tmps)).run P E.w = .ok ws E.w
  | [], [], _, h => ⟨[], .nil, by simp⟩
  | .tmp t :: l, .t n :: il, hok, h => by
    simp only [resOk, Bool.and_eq_true, beq_iff_eq] at hok
    obtain ⟨rfl, hok⟩ := hok
    obtain ⟨ws, h2, h3⟩ := resv_run hs l il hok h
    exact ⟨_, .cons (hs.tm t) h2, by simp only [List.mapM_cons, resOne, Sem.run_bind, Sem.run_pure, Result.andThen_ok, h3]⟩
  | .cell b t :: l, .cell n g :: il, hok, h => by
    simp only [resOk, Bool.and_eq_true, beq_iff_eq] at hok
    obtain ⟨⟨rfl, hg⟩, hok⟩ := hok
    simp only [resp] at h
    obtain ⟨h1, h⟩ := h
    obtain ⟨ws, h2, h3⟩ := resv_run hs l il hok h
    have hv := hs.tm b
    simp only [resv]
    generalize look1 s.tm b = x at *
    cases x <;> first | exact h1.elim | skip
    rename_i id i off
    obtain ⟨h4, h5, h6⟩ := h1
    obtain ⟨sz, rs, e, e1, e2⟩ := isRows_some h4
    rw [e1] at h5 h6
    simp only [e1]
    obtain ⟨lc, hl, hpv, _⟩ := hv.ptr_inv hs.hp e (by simp)
    obtain ⟨lc', hl', hsz, _, hrd⟩ := hs.hp.reads e (getD_lt [] h5)
    rw [hl] at hl'
    cases hl'
    subst hsz
    obtain ⟨v, v1, v2⟩ := run_loadVar hg hrd (rdv_of h6)
    have ha : (asAddr (a.tmps.getD b undef)).run P E.w = .ok ⟨lc.b, lc.base + i * lc.sz + off, none⟩ E.w := by rw [hpv]; simp [asAddr]
    exact ⟨_, .cons v2 h2, by simp only [List.mapM_cons, resOne, Sem.run_bind, Sem.run_pure, Result.andThen_ok, h3, ha, v1]⟩
  | [], _ :: _, h, _ => by simp [resOk] at h
  | .tmp _ :: _, [], h, _ => by simp [resOk] at h
  | .cell _ _ :: _, [], h, _ => by simp [resOk] at h
  | .tmp _ :: _, .cell _ _ :: _, h, _ => by simp [resOk] at h
  | .cell _ _ :: _, .t _ :: _, h, _ => by simp [resOk] at h

theorem run_results {E : Env} {s : AS} {a : Act} (hs : SRel nt E s a) {fn : Func} {il : List IRes} (hok : resOk P fn.results.toList il = true) (h : resp s il) : ∃ v, VRel E (one (resv s il)) v ∧ (results fn a.tmps).run P E.w = .ok v E.w := by
  obtain ⟨ws, h2, h3⟩ := resv_run hs _ il hok h
  have hm : (fn.results.mapM (resOne a.tmps)).run P E.w = .ok ws.toArray E.w := by
    rw [Array.mapM_eq_mapM_toList]
    simp [h3]
  have hl := h2.len
  refine ⟨if h : ws.toArray.size = 1 then ws.toArray[0] else .tuple ws.toArray, ?_, ?_⟩
  · generalize resv s il = vs at *
    match vs, ws, h2, hl with
    | [v], [w], h2, _ => exact h2.at_ 0 v w rfl rfl
    | [], [], h2, _ => exact .tup (vs := []) h2.len h2.at_
    | v :: v' :: vs, w :: w' :: ws, h2, _ => 
      have : ¬ (w :: w' :: ws).toArray.size = 1 := by simp
      rw [dif_neg this]
      exact .tup h2.len h2.at_
  · have e : results fn a.tmps = (do let vs ← fn.results.mapM (resOne a.tmps); pure (if h : vs.size = 1 then vs[0] else .tuple vs)) := by
      unfold results
      congr 1
    rw [e, Sem.run_bind, hm]
    rfl

/-- The function is the one that the small language's text stands for. -/
def fnOk (P : Program) (f : FuncId) (ic : ICode) (rs : List IRes) (nt : Nat) : Bool := callable P f && match P.funcs[f]? with
  | some fn => (match fn.body with | some c => okC P nt ic none c | none => false) && resOk P fn.results.toList rs && fn.ntmps == nt
  | none => false

/-- The slots ahead of the first operation. -/
def slots : Nat → List AV → List (Nat × AV)
  | _, [] => []
  | k, x :: xs => (k, x) :: slots (k + 1) xs
theorem look1_slots : ∀ (args : List AV) (k i : Nat), look1 (slots k args) i = if k ≤ i then args.getD (i - k) .any else .any
  | [], k, i => by simp [slots, look1]
  | x :: xs, k, i => by
    simp only [slots, look1, look1_slots xs (k + 1) i]
    by_cases h1 : k = i
    · subst h1; simp
    · by_cases h2 : k + 1 ≤ i
      · have e : i - k = (i - (k + 1)) + 1 := by omega
        simp [h1, h2, show k ≤ i by omega, e]
      · simp [h1, h2, show ¬ k ≤ i by omega]

theorem acall_of_vcQ (hmix : P.follows .mixedOrders = true) (hG : Knows P Γ) {f : FuncId} {ic : ICode} {rs : List IRes} {nt : Nat} (hf : fnOk P f ic rs nt = true) {args : List AV} {H : List AObj} {R : AV → List AObj → Prop} (hn : args.length ≤ nt) {Q : Exit → AS → Prop}
    (h : vc Γ H.length ic Q ⟨slots 0 args, H⟩) (hQ : ∀ e s, Q e s → fin H.length rs R e s) : ACall P f args H R := by
  unfold fnOk at hf
  simp only [Bool.and_eq_true] at hf
  obtain ⟨hc, hf⟩ := hf
  refine ⟨hc, fun E vs hH hv => ?_⟩
  split at hf
  · rename_i fn hfn
    simp only [Bool.and_eq_true, beq_iff_eq] at hf
    obtain ⟨⟨hb, hr⟩, hnt⟩ := hf
    split at hb
    · rename_i c hbody
      have hl := hv.len
      have hs : SRel nt E ⟨slots 0 args, H⟩ { tmps := vs.toArray ++ Array.replicate (fn.ntmps - vs.toArray.size) undef, defers := [] } := by
        refine ⟨rfl, by simp; omega, fun i => ?_, hH⟩
        simp only [look1_slots, Nat.zero_le, if_true, Nat.sub_zero, Array.getD_eq_getD_getElem?, List.getD_eq_getElem?_getD]
        by_cases hi : i < args.length
        · rw [Array.getElem?_append_left (by simp; omega)]
          have h1 : args[i]? = some args[i] := List.getElem?_eq_getElem hi
          have h2 : vs[i]? = some (vs[i]'(by omega)) := List.getElem?_eq_getElem (by omega)
          simp only [h1, List.getElem?_toArray, h2, Option.getD_some]
          exact hv.at_ i _ _ h1 h2
        · rw [List.getElem?_eq_none (by omega)]
          exact .any _
      refine calls_of_wp hfn hbody (wp_mono ((vc_sound hmix hG ic _).1 c hb _ _ h E E _ hs (Ext.refl (by rw [hH.n]; exact Nat.le_refl _))) fun e a w hp => ?_)
      obtain ⟨E', s', rfl, g1, g2, g3⟩ := hp
      replace g3 := hQ _ _ g3
      have fin_ : (resp s' rs ∧ ∃ x H_1, WeakR H.length (one (resv s' rs)) s'.hp x H_1 ∧ R x H_1) → a.defers = [] ∧ ∃ v, (results fn a.tmps).run P E'.w = .ok v E'.w ∧ ∃ v' E'_1 r H', Ending.returned v = .returned v' ∧ E'_1.w = E'.w ∧ VRel E'_1 r v' ∧ HRel E'_1 H' ∧ Ext H.length E E'_1 ∧ R r H' := fun hres => by
        obtain ⟨hp, x, H1, hw, hR⟩ := hres
        obtain ⟨v, hv1, hrun⟩ := run_results g1 hr hp
        obtain ⟨E2, e2, k1, k2, k3⟩ := hw E' v hv1 g1.hp g2.m
        exact ⟨g1.defers, v, hrun, v, E2, x, H1, rfl, e2, k1, k2, g2.trans k3, hR⟩
      cases e with
      | normal => exact fin_ g3
      | ret => exact fin_ g3
      | _ => exact g3.elim
    · cases hb
  · cases hf
end
end Go.Proofs.Ytnjpfoblmomnlaa.Sx
