/- Abstract values and heaps for proofs about the seat's Go functions, and what they say of the machine's values and memory: definitions and how these facts live on while memory grows. No conditions: a kit of our own. -/
import Derived.Below
import Derived.Orders
import Derived.ScopeJumps
import Derived.Tactics
import Derived.WalkKit
import Derived.Laws.CopyRow
import Derived.Laws.Append
import Derived.Laws.AppendOwn
import Derived.Laws.Tables
import Derived.Laws.BytesArg
namespace Go.Proofs.Ytnjpfoblmomnlaa.Sx
open Go Go.RowKit
set_option linter.unusedVariables false
set_option linter.unusedSimpArgs false

/-- A value as the proofs see it. 'view': a slice whose elements nobody writes any more; 'sl': a slice of a row of one's own. -/
inductive AV where
  | any
  | bool (b : Bool)
  | int (k : IntKind) (n : Int)
  | str (s : ByteArray)
  | val (v : Value)
  | nilp
  | ptr (id row off : Nat)
  | vp (row : List AV) (off : Nat)
  | nils
  | sl (id row len : Nat)
  | view (es : List (List AV))
  /-- The same, without room behind its elements. -/
  | cv (es : List (List AV))
  | nilm
  | map (id : Nat)
  | fn (f : FuncId) (caps free : List AV)
  | agg (cs : List AV)
  | tup (vs : List AV)
  /-- What a guarded operation left: v where c holds, and nothing elsewhere. -/
  | opt (c : Bool) (v : AV)

instance : Inhabited AV := ⟨.any⟩

structure Loc where
  b : Nat
  base : Nat
  sz : Nat

/-- Blocks that others own; those of them that belong to a thing of one's own, with the thing's first block. -/
structure Foe where
  p : Nat → Prop
  r : Nat → Option Nat
instance : CoeFun Foe (fun _ => Nat → Prop) := ⟨Foe.p⟩

structure Env where
  w : World
  s : Nat → Option Loc
  n : Nat
  /-- Blocks that others own. -/
  x : Foe

/-- What is strange to all of one's own. -/
def Env.out (E : Env) (b : Nat) : Prop := E.x b ∧ E.x.r b = none
/-- What belongs to the thing whose first block is k. -/
def Env.inn (E : Env) (k b : Nat) : Prop := E.x b ∧ E.x.r b = some k

/-- A block of one's own: rows of cells, or a map from ints; or a thing: a block and others that belong to it, of which R is so, and what it is. -/
inductive AObj where
  | dead
  | rows (sz : Nat) (rs : List (List AV))
  | imap (es : List (Int × AV))
  | thing {τ : Type} (x : τ) (R : Env → Loc → Prop)

/-- A slice that is appended to, and its object: none while it is nil. -/
def bs (i : Nat) : List (List AV) → AV
  | [] => .nils
  | r :: rs => .sl i 0 (rs.length + 1)
@[simp] theorem bs_nil (i : Nat) : bs i [] = .nils := rfl
@[simp] theorem bs_cons (i : Nat) (r : List AV) (rs : List (List AV)) : bs i (r :: rs) = .sl i 0 (rs.length + 1) := rfl
def bob (sz : Nat) : List (List AV) → AObj
  | [] => .dead
  | r :: rs => .rows sz (r :: rs)
@[simp] theorem bob_nil (sz : Nat) : bob sz [] = .dead := rfl
@[simp] theorem bob_cons (sz : Nat) (r : List AV) (rs : List (List AV)) : bob sz (r :: rs) = .rows sz (r :: rs) := rfl

/-- A block that is there and nobody's own. -/
def Env.free (E : Env) (b : Nat) : Prop := b < E.w.heap.size ∧ (∀ id l, E.s id = some l → l.b ≠ b) ∧ ¬ E.x b
def Env.room (E : Env) (b m : Nat) : Prop := ∃ cs e fr, E.w.heap[b]? = some (.cells cs e fr) ∧ m ≤ cs.size

inductive VRel (E : Env) : AV → Value → Prop
  | any (v : Value) : VRel E .any v
  | bool (b : Bool) : VRel E (.bool b) (.bool b)
  | int (k : IntKind) (n : Int) : VRel E (.int k n) (.int k n)
  | str (s : ByteArray) : VRel E (.str s) (.string s)
  | val (v : Value) : VRel E (.val v) v
  | nilp : VRel E .nilp (.pointer none)
  | ptr {id row off : Nat} {v : Value} (hid : id < E.n) (h1 : v.oneCell' = true) (h : ∀ l, E.s id = some l → v = .pointer (some ⟨l.b, l.base + row * l.sz + off, none⟩)) : VRel E (.ptr id row off) v
  | vp {row : List AV} {off b o : Nat} (c : Nat → Value) (hb : E.free b) (hc : ∀ j, j < row.length → E.w.cell? ⟨b, o + j, none⟩ = some (c j)) (h1 : ∀ j, j < row.length → (c j).oneCell' = true) (h : ∀ (j : Nat) (a : AV), row[j]? = some a → VRel E a (c j)) : VRel E (.vp row off) (.pointer (some ⟨b, o + off, none⟩))
  | nils : VRel E .nils (.slice none 0 0)
  | sl {id row len : Nat} {v : Value} (hid : id < E.n) (h1 : v.oneCell' = true) (h : ∀ l, E.s id = some l → ∃ cap i', v = .slice (some ⟨l.b, l.base + i' * l.sz, none⟩) len cap ∧ len ≤ cap ∧ E.room l.b (l.base + (i' + cap) * l.sz) ∧ (i' = row ∨ cap = 0)) : VRel E (.sl id row len) v
  | view0 (a : Option Addr) (cap : Nat) : VRel E (.view []) (.slice a 0 cap)
  | view {es : List (List AV)} {b o cap sz : Nat} (c : Nat → Nat → Value) (hb : E.free b) (hcap : es.length ≤ cap) (hsz : ∀ (i : Nat) (r : List AV), es[i]? = some r → r.length = sz)
      (hc : ∀ i j, i < es.length → j < sz → E.w.cell? ⟨b, o + i * sz + j, none⟩ = some (c i j)) (h1 : ∀ i j, i < es.length → j < sz → (c i j).oneCell' = true) (h : ∀ (i : Nat) (r : List AV) (j : Nat) (a : AV), es[i]? = some r → r[j]? = some a → VRel E a (c i j)) : VRel E (.view es) (.slice (some ⟨b, o, none⟩) es.length cap)
  | cv {es : List (List AV)} {v : Value} (h : VRel E (.view es) v) (hc : ∃ a n, v = .slice a n n) : VRel E (.cv es) v
  | nilm : VRel E .nilm (.map none)
  | map {id : Nat} {v : Value} (hid : id < E.n) (h1 : v.oneCell' = true) (h : ∀ l, E.s id = some l → v = .map (some l.b)) : VRel E (.map id) v
  | fn {f : FuncId} {caps free : List AV} {vs ws : List Value} (hl : vs.length = caps.length) (hm : ws.length = free.length) (h : ∀ (i : Nat) (a : AV) (v : Value), caps[i]? = some a → vs[i]? = some v → VRel E a v)
      (h' : ∀ (i : Nat) (a : AV) (v : Value), free[i]? = some a → ws[i]? = some v → VRel E a v) : VRel E (.fn f caps free) (.func (.func f) vs.toArray ws.toArray)
  | agg {cs : List AV} {vs : List Value} (hl : vs.length = cs.length) (h1 : ∀ v ∈ vs, v.oneCell' = true) (h : ∀ (i : Nat) (a : AV) (v : Value), cs[i]? = some a → vs[i]? = some v → VRel E a v) : VRel E (.agg cs) (.agg vs.toArray)
  | tup {cs : List AV} {vs : List Value} (hl : vs.length = cs.length) (h : ∀ (i : Nat) (a : AV) (v : Value), cs[i]? = some a → vs[i]? = some v → VRel E a v) : VRel E (.tup cs) (.tuple vs.toArray)
  | opt {c : Bool} {a : AV} {v : Value} (h : c = true → VRel E a v) (h' : c = false → v = undef) : VRel E (.opt c a) v

/-- Lists of values, one by one. -/
structure VRels (E : Env) (as : List AV) (vs : List Value) : Prop where
  len : vs.length = as.length
  at_ : ∀ (i : Nat) a v, as[i]? = some a → vs[i]? = some v → VRel E a v

/-- From E to E': what belongs to the thing at k is as it was, and so is what was nobody's own. -/
structure Later (k : Nat) (E E' : Env) : Prop where
  size : E.w.heap.size ≤ E'.w.heap.size
  blk : ∀ b, (b = k ∨ E.inn k b) → E'.w.heap[b]? = E.w.heap[b]?
  inn : ∀ b, E'.inn k b ↔ E.inn k b
  keep : ∀ b, E.free b → E'.w.heap[b]? = E.w.heap[b]? ∧ E'.free b
  room : ∀ (b : Nat) (cs : Array Value) (e : TypeId) (fr : Nat × Nat), E.w.heap[b]? = some (.cells cs e fr) → ∃ cs' : Array Value, E'.w.heap[b]? = some (.cells cs' e fr) ∧ cs'.size = cs.size
theorem Later.refl (k : Nat) (E : Env) : Later k E E := ⟨Nat.le_refl _, fun _ _ => rfl, fun _ => Iff.rfl, fun _ h => ⟨rfl, h⟩, fun _ cs _ _ h => ⟨cs, h, rfl⟩⟩
theorem Later.trans {k : Nat} {E E1 E2 : Env} (h : Later k E E1) (g : Later k E1 E2) : Later k E E2 where
  size := Nat.le_trans h.size g.size
  blk := fun b hb => (g.blk b (hb.imp id (h.inn b).2)).trans (h.blk b hb)
  inn := fun b => (g.inn b).trans (h.inn b)
  keep := fun b hb => by
    obtain ⟨h1, h2⟩ := h.keep b hb
    obtain ⟨k1, k2⟩ := g.keep b h2
    exact ⟨k1.trans h1, k2⟩
  room := fun b cs e fr hb => by
    obtain ⟨c1, h1, e1⟩ := h.room b cs e fr hb
    obtain ⟨c2, h2, e2⟩ := g.room b c1 e fr h1
    exact ⟨c2, h2, e2.trans e1⟩

/-- A map's entries: each was born once, before its clock's time. -/
structure MOk (ms : Array MapEntry) (ck : Nat) : Prop where
  old : ∀ (i : Nat) m, ms[i]? = some m → m.born < ck
  once : ∀ (i j : Nat) m m', ms[i]? = some m → ms[j]? = some m' → m.born = m'.born → i = j

inductive ORel (E : Env) : AObj → Loc → Prop
  | rows {sz : Nat} {rs : List (List AV)} {l : Loc} (cs : Array Value) (e : TypeId) (hs : l.sz = sz) (hb : E.w.heap[l.b]? = some (.cells cs e (0, 0))) (hl : l.base + rs.length * sz ≤ cs.size)
      (hr : ∀ (i : Nat) (r : List AV), rs[i]? = some r → r.length = sz) (h1 : ∀ k v, k < rs.length * sz → cs[l.base + k]? = some v → v.oneCell' = true) (h : ∀ (i : Nat) (r : List AV) (j : Nat) (a : AV) (v : Value), rs[i]? = some r → r[j]? = some a → cs[l.base + i * sz + j]? = some v → VRel E a v) : ORel E (.rows sz rs) l
  | imap {es : List (Int × AV)} {l : Loc} (ms : Array MapEntry) (ck : Nat) (hb : E.w.heap[l.b]? = some (.map ms ck)) (hm : MOk ms ck) (hl : ms.size = es.length)
      (hk : ∀ (i : Nat) x m, es[i]? = some x → ms[i]? = some m → m.key = .int .i64 x.1 ∧ VRel E x.2 m.val) : ORel E (.imap es) l
  | thing {τ : Type} {x : τ} {R : Env → Loc → Prop} {l : Loc} (hb : l.b < E.w.heap.size) (h : ∀ E', Later l.b E E' → R E' l) : ORel E (.thing x R) l

structure HRel (E : Env) (H : List AObj) : Prop where
  n : E.n = H.length
  has : ∀ id l, E.s id = some l → ∃ o, H[id]? = some o ∧ ORel E o l
  live : ∀ (id : Nat) o, H[id]? = some o → o ≠ .dead → ∃ l, E.s id = some l
  inj : ∀ i j li lj, E.s i = some li → E.s j = some lj → li.b = lj.b → i = j
  apart : ∀ id l, E.s id = some l → ¬ E.x l.b
  xlt : ∀ b, E.x b → b < E.w.heap.size

/-- From E to E': what was nobody's own is as it was, and is nobody's own; the first m names lead where they led, or nowhere. -/
structure Ext (m : Nat) (E E' : Env) : Prop where
  os : E'.w.os = E.w.os
  tape : E'.w.tape = E.w.tape
  output : E'.w.output = E.w.output
  size : E.w.heap.size ≤ E'.w.heap.size
  keep : ∀ b, E.free b → E'.w.heap[b]? = E.w.heap[b]? ∧ E'.free b
  ids : ∀ id l, id < m → E'.s id = some l → E.s id = some l
  room : ∀ (b : Nat) (cs : Array Value) (e : TypeId) (fr : Nat × Nat), E.w.heap[b]? = some (.cells cs e fr) → ∃ cs' : Array Value, E'.w.heap[b]? = some (.cells cs' e fr) ∧ cs'.size = cs.size
  m : m ≤ E'.n
  x : ∀ b, E'.out b ↔ E.out b
  keepx : ∀ b, E.out b → E'.w.heap[b]? = E.w.heap[b]?

theorem Ext.refl {m : Nat} {E : Env} (h : m ≤ E.n) : Ext m E E :=
  ⟨rfl, rfl, rfl, Nat.le_refl _, fun _ h => ⟨rfl, h⟩, fun _ _ _ h => h, fun _ cs _ _ h => ⟨cs, h, rfl⟩, h, fun _ => Iff.rfl, fun _ _ => rfl⟩

theorem Ext.mono {m k : Nat} {E E' : Env} (h : Ext m E E') (hk : k ≤ m) : Ext k E E' :=
  ⟨h.os, h.tape, h.output, h.size, h.keep, fun id l hid hl => h.ids id l (by omega) hl, h.room, Nat.le_trans hk h.m, h.x, h.keepx⟩

theorem Ext.trans {m : Nat} {E E1 E2 : Env} (h : Ext m E E1) (k : Ext m E1 E2) : Ext m E E2 where
  os := k.os.trans h.os
  tape := k.tape.trans h.tape
  output := k.output.trans h.output
  size := Nat.le_trans h.size k.size
  keep := fun b hb => by
    obtain ⟨h1, h2⟩ := h.keep b hb
    obtain ⟨k1, k2⟩ := k.keep b h2
    exact ⟨k1.trans h1, k2⟩
  ids := fun id l hid hl => h.ids id l hid (k.ids id l hid hl)
  room := fun b cs e fr hb => by
    obtain ⟨c1, h1, e1⟩ := h.room b cs e fr hb
    obtain ⟨c2, h2, e2⟩ := k.room b c1 e fr h1
    exact ⟨c2, h2, e2.trans e1⟩
  m := k.m
  x := fun b => (k.x b).trans (h.x b)
  keepx := fun b hb => (k.keepx b ((h.x b).2 hb)).trans (h.keepx b hb)

theorem cell?_block {w w' : World} {b : Nat} (h : w'.heap[b]? = w.heap[b]?) (o : Nat) : w'.cell? ⟨b, o, none⟩ = w.cell? ⟨b, o, none⟩ := by
  simp only [World.cell?, h]

theorem Env.room_ext {m : Nat} {E E' : Env} (x : Ext m E E') {b k : Nat} (h : E.room b k) : E'.room b k := by
  obtain ⟨cs, e, fr, hb, hk⟩ := h
  obtain ⟨cs', h', he⟩ := x.room b cs e fr hb
  exact ⟨cs', e, fr, h', by omega⟩

theorem VRel.ext {E E' : Env} {m : Nat} (hm : E.n ≤ m) (x : Ext m E E') {a : AV} {v : Value} (h : VRel E a v) : VRel E' a v := by
  have hn : E.n ≤ E'.n := Nat.le_trans hm x.m
  induction h with
  | any v => exact .any v
  | bool b => exact .bool b
  | int k n => exact .int k n
  | str s => exact .str s
  | val v => exact .val v
  | nilp => exact .nilp
  | ptr hid h1 h => exact .ptr (by omega) h1 (fun l hl => h l (x.ids _ l (by omega) hl))
  | vp c hb hc h1 h ih => exact .vp c (x.keep _ hb).2 (fun j hj => by rw [cell?_block (x.keep _ hb).1]; exact hc j hj) h1 ih
  | nils => exact .nils
  | sl hid h1 h =>
    refine .sl (by omega) h1 (fun l hl => ?_)
    obtain ⟨cap, i', hv, hc, hr, hi⟩ := h l (x.ids _ l (by omega) hl)
    exact ⟨cap, i', hv, hc, Env.room_ext x hr, hi⟩
  | view0 a cap => exact .view0 a cap
  | view c hb hcap hsz hc h1 h ih => exact .view c (x.keep _ hb).2 hcap hsz (fun i j hi hj => by rw [cell?_block (x.keep _ hb).1]; exact hc i j hi hj) h1 ih
  | cv h hc ih => exact .cv ih hc
  | nilm => exact .nilm
  | map hid h1 h => exact .map (by omega) h1 (fun l hl => h l (x.ids _ l (by omega) hl))
  | fn hl hm h h' ih ih' => exact .fn hl hm ih ih'
  | agg hl h1 h ih => exact .agg hl h1 ih
  | tup hl h ih => exact .tup hl ih
  | opt h h' ih => exact .opt ih h'

/-- What fits into one cell. -/
def AV.plain : AV → Bool
  | .any | .agg _ | .tup _ | .opt _ _ => false
  | .val v => v.oneCell'
  | _ => true
theorem VRel.one {E : Env} {a : AV} {v : Value} (h : VRel E a v) (hp : a.plain = true) : v.oneCell' = true := by
  cases h <;> first | rfl | assumption | (rename_i hc; obtain ⟨a, n, rfl⟩ := hc; rfl) | (simp [AV.plain] at hp; done) | (simpa [AV.plain] using hp)

theorem VRels.ext {E E' : Env} {m : Nat} (hm : E.n ≤ m) (x : Ext m E E') {as : List AV} {vs : List Value} (h : VRels E as vs) : VRels E' as vs :=
  ⟨h.len, fun i a v ha hv => (h.at_ i a v ha hv).ext hm x⟩

theorem VRels.nil {E : Env} : VRels E [] [] := ⟨rfl, fun i a v h => by simp at h⟩
theorem VRels.cons {E : Env} {a : AV} {v : Value} {as : List AV} {vs : List Value} (h : VRel E a v) (t : VRels E as vs) : VRels E (a :: as) (v :: vs) :=
  ⟨by simp [t.len], fun i x y hx hy => by
    cases i with
    | zero => simp at hx hy; subst hx; subst hy; exact h
    | succ i => exact t.at_ i x y (by simpa using hx) (by simpa using hy)⟩
theorem VRels.append {E : Env} {as bs : List AV} {vs ws : List Value} (h : VRels E as vs) (t : VRels E bs ws) : VRels E (as ++ bs) (vs ++ ws) :=
  ⟨by simp [h.len, t.len], fun i x y hx hy => by
    by_cases hi : i < as.length
    · rw [List.getElem?_append_left hi] at hx
      rw [List.getElem?_append_left (by have := h.len; omega)] at hy
      exact h.at_ i x y hx hy
    · rw [List.getElem?_append_right (by omega)] at hx
      rw [List.getElem?_append_right (by have := h.len; omega), h.len] at hy
      exact t.at_ _ x y hx hy⟩

theorem ORel.lt {E : Env} {o : AObj} {l : Loc} (h : ORel E o l) : l.b < E.w.heap.size := by
  cases h with
  | rows cs e hs hb => exact (Array.getElem?_eq_some_iff.1 hb).1
  | imap ms ck hb => exact (Array.getElem?_eq_some_iff.1 hb).1
  | thing hb => exact hb

theorem HRel.own_lt {E : Env} {H : List AObj} (h : HRel E H) {id : Nat} {l : Loc} (hl : E.s id = some l) : l.b < E.w.heap.size := by
  obtain ⟨o, _, ho⟩ := h.has id l hl
  exact ho.lt
theorem HRel.id_lt {E : Env} {H : List AObj} (h : HRel E H) {id : Nat} {l : Loc} (hl : E.s id = some l) : id < E.n := by
  obtain ⟨o, ho, _⟩ := h.has id l hl
  have := (List.getElem?_eq_some_iff.1 ho).1
  rw [h.n]; exact this
/-- The object that a name leads to. -/
theorem HRel.get {E : Env} {H : List AObj} (h : HRel E H) {id : Nat} {o : AObj} (ho : H[id]? = some o) (hd : o ≠ .dead) : ∃ l, E.s id = some l ∧ ORel E o l := by
  obtain ⟨l, hl⟩ := h.live id o ho hd
  obtain ⟨o', ho', hr⟩ := h.has id l hl
  rw [ho] at ho'
  cases ho'
  exact ⟨l, hl, hr⟩

/-- What belongs to the thing at k, or would, is as it was. -/
def Env.Same (E E' : Env) (k : Nat) : Prop := ∀ b, (E.inn k b → E'.w.heap[b]? = E.w.heap[b]?) ∧ (E'.inn k b ↔ E.inn k b)
theorem Ext.later {E E' : Env} {m : Nat} (x : Ext m E E') {k : Nat} (hb : E'.w.heap[k]? = E.w.heap[k]?) (hs : E.Same E' k) : Later k E E' :=
  ⟨x.size, fun b h => h.elim (fun h => h ▸ hb) (hs b).1, fun b => (hs b).2, x.keep, x.room⟩
/-- An object lives on where its block is as it was. -/
theorem ORel.keep {E E' : Env} {m : Nat} (hm : E.n ≤ m) (x : Ext m E E') {o : AObj} {l : Loc} (h : ORel E o l) (hb : E'.w.heap[l.b]? = E.w.heap[l.b]?) (hs : E.Same E' l.b) : ORel E' o l := by
  cases h with
  | thing hlt h => exact .thing (Nat.lt_of_lt_of_le hlt x.size) fun E2 h2 => h E2 ((x.later hb hs).trans h2)
  | rows cs e hs hb' hl hr h1 h => exact .rows cs e hs (hb.trans hb') hl hr h1 (fun i r j a v h1 h2 h3 => (h i r j a v h1 h2 h3).ext hm x)
  | imap ms ck hb' hmo hl hk => exact .imap ms ck (hb.trans hb') hmo hl (fun i y m h1 h2 => ⟨(hk i y m h1 h2).1, (hk i y m h1 h2).2.ext hm x⟩)

end Go.Proofs.Ytnjpfoblmomnlaa.Sx
