/- What is known may be told under other names, or as nobody's own ('Seen'); a proof over a small heap serves in a great one ('Det.frame'). No conditions: a kit of our own. -/
import Derived.Test.YteidimemlonjbaaSx17
namespace Go.Proofs.Yteidimemlonjbaa.Sx
open Go Go.RowKit
set_option linter.unusedVariables false
set_option linter.unusedSimpArgs false

/-- Two lists, one by one. -/
def Each {α β : Type} (R : α → β → Prop) (as : List α) (bs : List β) : Prop := bs.length = as.length ∧ ∀ (i : Nat) (a : α) (b : β), as[i]? = some a → bs[i]? = some b → R a b

/-- What a says under the one names, a' says under the others. -/
inductive Seen (H : List AObj) (R : Nat → Nat → Prop) : AV → AV → Prop
  | any (a : AV) : Seen H R a .any
  | bool (b : Bool) : Seen H R (.bool b) (.bool b)
  | int (k : IntKind) (n : Int) : Seen H R (.int k n) (.int k n)
  | str (s : ByteArray) : Seen H R (.str s) (.str s)
  | val (v : Value) : Seen H R (.val v) (.val v)
  | nilp : Seen H R .nilp .nilp
  | nils : Seen H R .nils .nils
  | nilv : Seen H R .nils (.view [])
  | nilm : Seen H R .nilm .nilm
  | ptr {i j r o : Nat} (h : R i j) : Seen H R (.ptr i r o) (.ptr j r o)
  | sl {i j r l : Nat} (h : R i j) : Seen H R (.sl i r l) (.sl j r l)
  | map {i j : Nat} (h : R i j) : Seen H R (.map i) (.map j)
  | vp {row row' : List AV} {o : Nat} (hl : row'.length = row.length) (h : ∀ (i : Nat) (a b : AV), row[i]? = some a → row'[i]? = some b → Seen H R a b) : Seen H R (.vp row o) (.vp row' o)
  | view {es es' : List (List AV)} (hl : es'.length = es.length) (hr : ∀ (i : Nat) (r r' : List AV), es[i]? = some r → es'[i]? = some r' → r'.length = r.length)
      (h : ∀ (i : Nat) (r r' : List AV) (j : Nat) (a b : AV), es[i]? = some r → es'[i]? = some r' → r[j]? = some a → r'[j]? = some b → Seen H R a b) : Seen H R (.view es) (.view es')
  | fz {i sz r l : Nat} {rs es' : List (List AV)} (ho : H[i]? = some (.rows sz rs)) (hn : ∀ j, ¬ R i j) (hb : r + l ≤ rs.length) (hl : es'.length = l) (hr : ∀ (i : Nat) (x x' : List AV), rs[r + i]? = some x → es'[i]? = some x' → x'.length = x.length)
      (h : ∀ (i : Nat) (x x' : List AV) (j : Nat) (a b : AV), rs[r + i]? = some x → es'[i]? = some x' → x[j]? = some a → x'[j]? = some b → Seen H R a b) : Seen H R (.sl i r l) (.view es')
  | fzp {i sz r o : Nat} {rs : List (List AV)} {row row' : List AV} (ho : H[i]? = some (.rows sz rs)) (hn : ∀ j, ¬ R i j) (hr : rs[r]? = some row) (hl : row'.length = row.length) (h : ∀ (k : Nat) (a b : AV), row[k]? = some a → row'[k]? = some b → Seen H R a b) : Seen H R (.ptr i r o) (.vp row' o)
  | cv {es es' : List (List AV)} (h : Seen H R (.view es) (.view es')) : Seen H R (.cv es) (.cv es')
  | cvv {es es' : List (List AV)} (h : Seen H R (.view es) (.view es')) : Seen H R (.cv es) (.view es')
  | fn {f : FuncId} {cs cs' fs fs' : List AV} (hl : cs'.length = cs.length) (hm : fs'.length = fs.length) (h : ∀ (i : Nat) (a b : AV), cs[i]? = some a → cs'[i]? = some b → Seen H R a b)
      (h' : ∀ (i : Nat) (a b : AV), fs[i]? = some a → fs'[i]? = some b → Seen H R a b) : Seen H R (.fn f cs fs) (.fn f cs' fs')
  | agg {cs cs' : List AV} (hl : cs'.length = cs.length) (h : ∀ (i : Nat) (a b : AV), cs[i]? = some a → cs'[i]? = some b → Seen H R a b) : Seen H R (.agg cs) (.agg cs')
  | tup {cs cs' : List AV} (hl : cs'.length = cs.length) (h : ∀ (i : Nat) (a b : AV), cs[i]? = some a → cs'[i]? = some b → Seen H R a b) : Seen H R (.tup cs) (.tup cs')
  | opt {c : Bool} {a b : AV} (h : Seen H R a b) : Seen H R (.opt c a) (.opt c b)

/-- No name in it. -/
def Closed (a : AV) : Prop := Seen [] (fun _ _ => False) a a

theorem Seen.mono {H H' : List AObj} {R R' : Nat → Nat → Prop} {a b : AV} (h : Seen H R a b) (hR : ∀ i j, R i j → R' i j) (hH : H = [] ∨ (H = H' ∧ ∀ i, (∀ j, ¬ R i j) → ∀ j, ¬ R' i j)) : Seen H' R' a b := by
  induction h with
  | any a => exact .any a
  | bool b => exact .bool b
  | int k n => exact .int k n
  | str s => exact .str s
  | val v => exact .val v
  | nilp => exact .nilp
  | nils => exact .nils
  | nilv => exact .nilv
  | nilm => exact .nilm
  | ptr h => exact .ptr (hR _ _ h)
  | sl h => exact .sl (hR _ _ h)
  | map h => exact .map (hR _ _ h)
  | vp hl h ih => exact .vp hl ih
  | view hl hr h ih => exact .view hl hr ih
  | fz ho hn hb hl hr h ih =>
    rcases hH with hH | ⟨hH, hH'⟩
    · rw [hH] at ho; simp at ho
    · subst hH
      exact .fz ho (hH' _ hn) hb hl hr ih
  | fzp ho hn hr hl h ih =>
    rcases hH with hH | ⟨hH, hH'⟩
    · rw [hH] at ho; simp at ho
    · subst hH
      exact .fzp ho (hH' _ hn) hr hl ih
  | cv h ih => exact .cv ih
  | cvv h ih => exact .cvv ih
  | fn hl hm h h' ih ih' => exact .fn hl hm ih ih'
  | agg hl h ih => exact .agg hl ih
  | tup hl h ih => exact .tup hl ih
  | opt h ih => exact .opt ih
theorem Closed.seen {a : AV} (h : Closed a) (H : List AObj) (R : Nat → Nat → Prop) : Seen H R a a := h.mono (fun _ _ h => h.elim) (.inl rfl)

/-- The same world under other names. -/
structure Other (H : List AObj) (R : Nat → Nat → Prop) (E E' : Env) : Prop where
  w : E'.w = E.w
  free : ∀ b, E.free b → E'.free b
  ids : ∀ i j, R i j → j < E'.n ∧ ∀ l, E'.s j = some l → E.s i = some l
  hp : H = [] ∨ HRel E H
  freed : H = [] ∨ ∀ i l, E.s i = some l → (∀ j, ¬ R i j) → E'.free l.b

theorem get_of_len {α β : Type} {as : List α} {bs : List β} (h : bs.length = as.length) {i : Nat} {b : β} (hb : bs[i]? = some b) : ∃ a, as[i]? = some a :=
  ⟨as[i]'(by have := (List.getElem?_eq_some_iff.1 hb).1; omega), List.getElem?_eq_getElem _⟩

theorem Seen.rel {H : List AObj} {R : Nat → Nat → Prop} {E E' : Env} (o : Other H R E E') {a b : AV} (h : Seen H R a b) : ∀ v, VRel E a v → VRel E' b v := by
  have cell : ∀ p, E'.w.cell? p = E.w.cell? p := fun p => by rw [o.w]
  induction h with
  | any a => exact fun v _ => .any v
  | bool b => intro v h; cases h; exact .bool b
  | int k n => intro v h; cases h; exact .int k n
  | str s => intro v h; cases h; exact .str s
  | val v => intro v h; cases h; exact .val _
  | nilp => intro v h; cases h; exact .nilp
  | nils => intro v h; cases h; exact .nils
  | nilv => intro v h; cases h; exact .view0 _ _
  | nilm => intro v h; cases h; exact .nilm
  | ptr h =>
    intro v hv
    obtain ⟨h1, h2⟩ := o.ids _ _ h
    cases hv with
    | ptr hid h3 h4 => exact .ptr h1 h3 fun l hl => h4 l (h2 l hl)
  | sl h =>
    intro v hv
    obtain ⟨h1, h2⟩ := o.ids _ _ h
    cases hv with
    | sl hid h3 h4 =>
      exact .sl h1 h3 fun l hl => by
        obtain ⟨cap, e1, e2, e3⟩ := h4 l (h2 l hl)
        exact ⟨cap, e1, e2, by unfold Env.room at *; rw [o.w]; exact e3⟩
  | map h =>
    intro v hv
    obtain ⟨h1, h2⟩ := o.ids _ _ h
    cases hv with
    | map hid h3 h4 => exact .map h1 h3 fun l hl => h4 l (h2 l hl)
  | vp hl h ih =>
    intro v hv
    cases hv with
    | vp c hb hc h1 hh =>
      exact .vp c (o.free _ hb) (fun j hj => by rw [cell]; exact hc j (by omega)) (fun j hj => h1 j (by omega)) fun j b hb' => by
        obtain ⟨a, ha⟩ := get_of_len hl hb'
        exact ih j a b ha hb' _ (hh j a ha)
  | @view es es' hl hr h ih =>
    intro v hv
    cases hv with
    | view0 q cap => 
      cases es' with
      | nil => exact .view0 q cap
      | cons => simp at hl
    | @view _ b off cap sz c hb hcap hsz hc h1 hh =>
      rw [← hl]
      refine .view (sz := sz) c (o.free _ hb) (by omega) (fun i r' hi => ?_) (fun i j hi hj => by rw [cell]; exact hc i j (by omega) hj) (fun i j hi hj => h1 i j (by omega) hj) fun i r' j b hi hj => ?_
      · obtain ⟨r, hr'⟩ := get_of_len hl hi
        rw [hr i r r' hr' hi]; exact hsz i r hr'
      · obtain ⟨r, hr'⟩ := get_of_len hl hi
        obtain ⟨a, ha⟩ := get_of_len (hr i r r' hr' hi) hj
        exact ih i r r' j a b hr' hi ha hj _ (hh i r j a hr' ha)
  | @fz i sz r l rs es' ho hn hb hl hr h ih =>
    intro v hv
    have hne : H ≠ [] := by rintro rfl; simp at ho
    have hp := o.hp.resolve_left hne
    have freed := o.freed.resolve_left hne
    obtain ⟨lc, h1, cap, h2, h3, h4⟩ : ∃ lc, E.s i = some lc ∧ ∃ cap, v = .slice (some ⟨lc.b, lc.base + r * lc.sz, none⟩) l cap ∧ l ≤ cap ∧ ORel E (.rows sz rs) lc := by
      obtain ⟨lc, h1, h2⟩ := hp.get ho (by simp)
      cases hv with
      | sl hid h3 h4 =>
        obtain ⟨cap, e1, e2, e3⟩ := h4 lc h1
        exact ⟨lc, h1, cap, e1, e2, h2⟩
    subst h2
    cases h4 with
    | rows cs e hs hbk hlen hrl h1c hh =>
      subst hl
      have hsz : ∀ (k : Nat) (x' : List AV), es'[k]? = some x' → x'.length = sz := fun k x' hk => by
        have hlt := (List.getElem?_eq_some_iff.1 hk).1
        have hx : rs[r + k]? = some (rs[r + k]'(by omega)) := List.getElem?_eq_getElem (by omega)
        rw [hr k _ x' hx hk]
        exact hrl _ _ hx
      have idx : ∀ k j, k < es'.length → j < sz → lc.base + r * lc.sz + k * sz + j < cs.size ∧ (r + k) * sz + j < rs.length * sz ∧ lc.base + r * lc.sz + k * sz + j = lc.base + ((r + k) * sz + j) := fun k j hk hj => by
        have h1 : (r + k) * sz = r * sz + k * sz := Nat.add_mul _ _ _
        have h2 : (r + k + 1) * sz ≤ rs.length * sz := Nat.mul_le_mul_right _ (by omega)
        have h3 : (r + k + 1) * sz = (r + k) * sz + sz := by rw [Nat.add_mul, Nat.one_mul]
        rw [hs]
        omega
      refine .view (sz := sz) (fun k j => cs.getD (lc.base + r * lc.sz + k * sz + j) undef) (freed i lc h1 hn) h3 hsz (fun k j hk hj => ?_) (fun k j hk hj => ?_) (fun k x' j b hk hj => ?_)
      · obtain ⟨e1, e2, e3⟩ := idx k j hk hj
        rw [cell]
        simp only [World.cell?, hbk]
        simp [Array.getD_eq_getD_getElem?, Array.getElem?_eq_getElem e1]
      · obtain ⟨e1, e2, e3⟩ := idx k j hk hj
        refine h1c ((r + k) * sz + j) _ e2 ?_
        rw [← e3]
        simp [Array.getD_eq_getD_getElem?, Array.getElem?_eq_getElem e1]
      · have hlt := (List.getElem?_eq_some_iff.1 hk).1
        have hx : rs[r + k]? = some (rs[r + k]'(by omega)) := List.getElem?_eq_getElem (by omega)
        have hjl := (List.getElem?_eq_some_iff.1 hj).1
        obtain ⟨a, ha⟩ := get_of_len (hr k _ x' hx hk) hj
        obtain ⟨e1, e2, e3⟩ := idx k j hlt (by rw [hsz k x' hk] at hjl; exact hjl)
        refine ih k _ x' j a b hx hk ha hj _ (hh (r + k) _ j a _ hx ha ?_)
        rw [show lc.base + (r + k) * sz + j = lc.base + r * lc.sz + k * sz + j by omega]
        simp [Array.getD_eq_getD_getElem?, Array.getElem?_eq_getElem e1]
  | @fzp i sz r off rs row row' ho hn hr hl h ih =>
    intro v hv
    have hne : H ≠ [] := by rintro rfl; simp at ho
    have hp := o.hp.resolve_left hne
    have freed := o.freed.resolve_left hne
    obtain ⟨lc, h1, h2, h4⟩ : ∃ lc, E.s i = some lc ∧ v = .pointer (some ⟨lc.b, lc.base + r * lc.sz + off, none⟩) ∧ ORel E (.rows sz rs) lc := by
      obtain ⟨lc, h1, h2⟩ := hp.get ho (by simp)
      cases hv with
      | ptr hid h3 h4 => exact ⟨lc, h1, h4 lc h1, h2⟩
    subst h2
    cases h4 with
    | rows cs e hs hbk hlen hrl h1c hh =>
      have hrlt := (List.getElem?_eq_some_iff.1 hr).1
      have hsz : row'.length = sz := by rw [hl]; exact hrl _ _ hr
      have idx : ∀ j, j < sz → lc.base + r * lc.sz + j < cs.size ∧ r * sz + j < rs.length * sz ∧ lc.base + r * lc.sz + j = lc.base + (r * sz + j) := fun j hj => by
        have h2 : (r + 1) * sz ≤ rs.length * sz := Nat.mul_le_mul_right _ (by omega)
        have h3 : (r + 1) * sz = r * sz + sz := by rw [Nat.add_mul, Nat.one_mul]
        rw [hs]
        omega
      refine .vp (fun j => cs.getD (lc.base + r * lc.sz + j) undef) (freed i lc h1 hn) (fun j hj => ?_) (fun j hj => ?_) fun j b hb' => ?_
      · obtain ⟨e1, e2, e3⟩ := idx j (by omega)
        rw [cell]
        simp only [World.cell?, hbk]
        simp [Array.getD_eq_getD_getElem?, Array.getElem?_eq_getElem e1]
      · obtain ⟨e1, e2, e3⟩ := idx j (by omega)
        refine h1c (r * sz + j) _ e2 ?_
        rw [← e3]
        simp [Array.getD_eq_getD_getElem?, Array.getElem?_eq_getElem e1]
      · have hjl := (List.getElem?_eq_some_iff.1 hb').1
        obtain ⟨a, ha⟩ := get_of_len hl hb'
        obtain ⟨e1, e2, e3⟩ := idx j (by omega)
        refine ih j a b ha hb' _ (hh r _ j a _ hr ha ?_)
        rw [show lc.base + r * sz + j = lc.base + r * lc.sz + j by omega]
        simp [Array.getD_eq_getD_getElem?, Array.getElem?_eq_getElem e1]
  | @fn f cs cs' fs fs' hl hm h h' ih ih' =>
    intro v hv
    cases hv with
    | fn hl1 hm1 hh hh' =>
      exact .fn (hl1.trans hl.symm) (hm1.trans hm.symm) (fun i b v hb hv => by
        obtain ⟨a, ha⟩ := get_of_len hl hb
        exact ih i a b ha hb v (hh i a v ha hv)) fun i b v hb hv => by
        obtain ⟨a, ha⟩ := get_of_len hm hb
        exact ih' i a b ha hb v (hh' i a v ha hv)
  | agg hl h ih =>
    intro v hv
    cases hv with
    | agg hl1 h1 hh =>
      exact .agg (hl1.trans hl.symm) h1 fun i b v hb hv => by
        obtain ⟨a, ha⟩ := get_of_len hl hb
        exact ih i a b ha hb v (hh i a v ha hv)
  | tup hl h ih =>
    intro v hv
    cases hv with
    | tup hl1 hh =>
      exact .tup (hl1.trans hl.symm) fun i b v hb hv => by
        obtain ⟨a, ha⟩ := get_of_len hl hb
        exact ih i a b ha hb v (hh i a v ha hv)
  | cv h ih =>
    intro v hv
    cases hv with
    | cv hv hc => exact .cv (ih v hv) hc
  | cvv h ih =>
    intro v hv
    cases hv with
    | cv hv hc => exact ih v hv
  | opt h ih =>
    intro v hv
    cases hv with
    | opt h1 h2 => exact .opt (fun hc => ih v (h1 hc)) h2

/-- The same of an object. -/
inductive SeenO (H : List AObj) (R : Nat → Nat → Prop) : AObj → AObj → Prop
  | dead (o : AObj) : SeenO H R o .dead
  | rows {sz : Nat} {rs rs' : List (List AV)} (hl : rs'.length = rs.length) (hr : ∀ (i : Nat) (r r' : List AV), rs[i]? = some r → rs'[i]? = some r' → r'.length = r.length)
      (h : ∀ (i : Nat) (r r' : List AV) (j : Nat) (a b : AV), rs[i]? = some r → rs'[i]? = some r' → r[j]? = some a → r'[j]? = some b → Seen H R a b) : SeenO H R (.rows sz rs) (.rows sz rs')
  | imap {es es' : List (Int × AV)} (hl : es'.length = es.length) (h : ∀ (i : Nat) (a b : Int × AV), es[i]? = some a → es'[i]? = some b → b.1 = a.1 ∧ Seen H R a.2 b.2) : SeenO H R (.imap es) (.imap es')

theorem SeenO.rel {H : List AObj} {R : Nat → Nat → Prop} {E E' : Env} (o : Other H R E E') {x y : AObj} (h : SeenO H R x y) (hd : y ≠ .dead) {l : Loc} (hx : ORel E x l) : ORel E' y l := by
  cases h with
  | dead => exact absurd rfl hd
  | rows hl hr h =>
    cases hx with
    | rows cs e hs hb hlen hrl h1 hh =>
      exact .rows cs e hs (by rw [o.w]; exact hb) (by rw [hl]; exact hlen) (fun i r' hi => by
        obtain ⟨r, hr'⟩ := get_of_len hl hi
        rw [hr i r r' hr' hi]; exact hrl i r hr') (fun k v hk hv => h1 k v (by rw [hl] at hk; exact hk) hv) fun i r' j b v hi hj hv => by
        obtain ⟨r, hr'⟩ := get_of_len hl hi
        obtain ⟨a, ha⟩ := get_of_len (hr i r r' hr' hi) hj
        exact (h i r r' j a b hr' hi ha hj).rel o v (hh i r j a v hr' ha hv)
  | imap hl h =>
    cases hx with
    | imap ms ck hb hlen hk =>
      exact .imap ms ck (by rw [o.w]; exact hb) (by rw [hl]; exact hlen) fun i b m hb' hm => by
        obtain ⟨a, ha⟩ := get_of_len hl hb'
        obtain ⟨h1, h2⟩ := h i a b ha hb'
        obtain ⟨h3, h4⟩ := hk i a m ha hm
        exact ⟨by rw [h3, h1], h2.rel o _ h4⟩

/-! ### names struck and named anew; g: the elder name of each name -/
def byG (g : List Nat) (i j : Nat) : Prop := g[j]? = some i
structure Shed (m : Nat) (g : List Nat) (H H' : List AObj) : Prop where
  len : H'.length = g.length
  low : m ≤ g.length
  keep : ∀ (j : Nat), j < m → g[j]? = some j
  nodup : ∀ (i j k : Nat), g[i]? = some k → g[j]? = some k → i = j
  obj : ∀ (j i : Nat) o', g[j]? = some i → H'[j]? = some o' → o' ≠ .dead → ∃ o, H[i]? = some o ∧ SeenO H (byG g) o o'

theorem Shed.other {m : Nat} {g : List Nat} {H H' : List AObj} (h : Shed m g H H') {E : Env} (hH : HRel E H) (hm : m ≤ E.n) : ∃ E', E'.w = E.w ∧ Other H (byG g) E E' ∧ HRel E' H' ∧ Ext m E E' := by
  let s' : Nat → Option Loc := fun j => match H'[j]? with
    | some .dead => none
    | none => none
    | some _ => (g[j]?).bind E.s
  have hs : ∀ j l, s' j = some l → ∃ i o', g[j]? = some i ∧ E.s i = some l ∧ H'[j]? = some o' ∧ o' ≠ .dead := fun j l hj => by
    simp only [s'] at hj
    split at hj
    · cases hj
    · cases hj
    · rename_i o' hd e
      obtain ⟨i, h1, h2⟩ := Option.bind_eq_some_iff.1 hj
      exact ⟨i, o', h1, h2, e, fun hh => hd hh⟩
  have free : ∀ b, E.free b → (⟨E.w, s', g.length, E.x⟩ : Env).free b := fun b hb => ⟨hb.1, fun j l hj => (by
    obtain ⟨i, o', h1, h2, h3, h4⟩ := hs j l hj
    exact hb.2.1 i l h2), hb.2.2⟩
  have oth : Other H (byG g) E ⟨E.w, s', g.length, E.x⟩ := by
    refine ⟨rfl, free, fun i j hij => ⟨(List.getElem?_eq_some_iff.1 hij).1, fun l hl => ?_⟩, .inr hH, .inr fun i l hi hn => ⟨hH.own_lt hi, fun j l' hj e => ?_, hH.apart i l hi⟩⟩
    · obtain ⟨i', o', h1, h2, _⟩ := hs j l hl
      simp only [byG] at hij
      rw [hij] at h1; cases h1
      exact h2
    · obtain ⟨i', o', h1, h2, _⟩ := hs j l' hj
      have := hH.inj _ _ _ _ h2 hi e
      subst this
      exact hn j h1
  refine ⟨⟨E.w, s', g.length, E.x⟩, rfl, oth, ⟨h.len.symm, fun j l hj => ?_, fun j o' ho hd => ?_, fun i j li lj hi hj e => ?_, fun j l hj => ?_, hH.xlt⟩, ⟨rfl, rfl, rfl, Nat.le_refl _, fun b hb => ⟨rfl, free b hb⟩, fun j l hj hl => ?_, fun b cs e fr hb => ⟨cs, hb, rfl⟩, h.low, rfl, fun _ _ => rfl⟩⟩
  · obtain ⟨i, o', h1, h2, h3, h4⟩ := hs j l hj
    obtain ⟨o, h5, h6⟩ := h.obj j i o' h1 h3 h4
    obtain ⟨o2, h7, h8⟩ := hH.has i l h2
    rw [h5] at h7; cases h7
    exact ⟨o', h3, h6.rel oth h4 h8⟩
  · have hlt := (List.getElem?_eq_some_iff.1 ho).1
    rw [h.len] at hlt
    have hg : g[j]? = some g[j] := List.getElem?_eq_getElem hlt
    obtain ⟨o, h5, h6⟩ := h.obj j _ o' hg ho hd
    have hod : o ≠ .dead := by rintro rfl; cases h6; exact hd rfl
    obtain ⟨l, hl⟩ := hH.live _ o h5 hod
    refine ⟨l, ?_⟩
    have e : s' j = (g[j]?).bind E.s := by
      simp only [s', ho]
    show s' j = some l
    rw [e, hg]
    exact hl
  · obtain ⟨a, _, h1, h2, _⟩ := hs i li hi
    obtain ⟨b, _, h3, h4, _⟩ := hs j lj hj
    have := hH.inj _ _ _ _ h2 h4 e
    subst this
    exact h.nodup i j _ h1 h3
  · obtain ⟨a, _, h1, h2, _⟩ := hs j l hj
    exact hH.apart a l h2
  · obtain ⟨a, _, h1, h2, _⟩ := hs j l hl
    rw [h.keep j hj] at h1; cases h1
    exact h2

theorem Shed.weak {m : Nat} {g : List Nat} {s s' : AS} (h : Shed m g s.hp s'.hp) (ht : ∀ i, Seen s.hp (byG g) (look1 s.tm i) (look1 s'.tm i)) : Weak m s s' := fun nt E a hs hm => by
  obtain ⟨E', e1, e2, e3, e4⟩ := h.other hs.hp hm
  exact ⟨E', e1, ⟨hs.defers, hs.len, fun i => (ht i).rel e2 _ (hs.tm i), e3⟩, e4⟩
theorem Shed.weakR {m : Nat} {g : List Nat} {x x' : AV} {H H' : List AObj} (h : Shed m g H H') (hx : Seen H (byG g) x x') : WeakR m x H x' H' := fun E v hv hH hm => by
  obtain ⟨E', e1, e2, e3, e4⟩ := h.other hH hm
  exact ⟨E', e1, hx.rel e2 _ hv, e3, e4⟩
theorem WeakR.refl {m : Nat} {x : AV} {H : List AObj} : WeakR m x H x H := fun E v hv hH hm => ⟨E, rfl, hv, hH, Ext.refl hm⟩
end Go.Proofs.Yteidimemlonjbaa.Sx
