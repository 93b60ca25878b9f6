/- What is known may be told under other names, or as nobody's own ('Seen'); a proof over a small heap serves in a great one ('Det.frame'). No conditions: a kit of our own. -/
import Derived.Test.YtnjpfoblmomnlaaSx17
namespace Go.Proofs.Ytnjpfoblmomnlaa.Sx
open Go Go.RowKit
set_option linter.unusedVariables false
set_option linter.unusedSimpArgs false

/-- Two lists, one by one. -/
def Each {α β : Type} (R : α → β → Prop) (as : List α) (bs : List β) : Prop := bs.length = as.length ∧ ∀ (i : Nat) (a : α) (b : β), as[i]? = some a → bs[i]? = some b → R a b

/-- What a says under the one names, a' says under the others. -/
inductive Seen (H : List AObj) (R : Nat → Nat → Prop) : AV → AV → Prop
  | any (a : AV) : Seen H R a .any
  | bool (b : Bool) : Seen H R (.bool b) (.bool b)
  | int (k : IntKind) (n : Int) : Seen H R (.int k n) (.int k n)
  | str (s : ByteArray) : Seen H R (.str s) (.str s)
  | val (v : Value) : Seen H R (.val v) (.val v)
  | nilp : Seen H R .nilp .nilp
  | nils : Seen H R .nils .nils
  | nilv : Seen H R .nils (.view [])
  | nilm : Seen H R .nilm .nilm
  | ptr {i j r o : Nat} (h : R i j) : Seen H R (.ptr i r o) (.ptr j r o)
  | sl {i j r l : Nat} (h : R i j) : Seen H R (.sl i r l) (.sl j r l)
  | map {i j : Nat} (h : R i j) : Seen H R (.map i) (.map j)
  | vp {row row' : List AV} {o : Nat} (hl : row'.length = row.length) (h : ∀ (i : Nat) (a b : AV), row[i]? = some a → row'[i]? = some b → Seen H R a b) : Seen H R (.vp row o) (.vp row' o)
  | view {es es' : List (List AV)} (hl : es'.length = es.length) (hr : ∀ (i : Nat) (r r' : List AV), es[i]? = some r → es'[i]? = some r' → r'.length = r.length)
      (h : ∀ (i : Nat) (r r' : List AV) (j : Nat) (a b : AV), es[i]? = some r → es'[i]? = some r' → r[j]? = some a → r'[j]? = some b → Seen H R a b) : Seen H R (.view es) (.view es')
  | fz {i sz r l : Nat} {rs es' : List (List AV)} (ho : H[i]? = some (.rows sz rs)) (hn : ∀ j, ¬ R i j) (hb : r + l ≤ rs.length) (hl : es'.length = l) (hr : ∀ (i : Nat) (x x' : List AV), rs[r + i]? = some x → es'[i]? = some x' → x'.length = x.length)
      (h : ∀ (i : Nat) (x x' : List AV) (j : Nat) (a b : AV), rs[r + i]? = some x → es'[i]? = some x' → x[j]? = some a → x'[j]? = some b → Seen H R a b) : Seen H R (.sl i r l) (.view es')
  | fzp {i sz r o : Nat} {rs : List (List AV)} {row row' : List AV} (ho : H[i]? = some (.rows sz rs)) (hn : ∀ j, ¬ R i j) (hr : rs[r]? = some row) (hl : row'.length = row.length) (h : ∀ (k : Nat) (a b : AV), row[k]? = some a → row'[k]? = some b → Seen H R a b) : Seen H R (.ptr i r o) (.vp row' o)
  | cv {es es' : List (List AV)} (h : Seen H R (.view es) (.view es')) : Seen H R (.cv es) (.cv es')
  | cvv {es es' : List (List AV)} (h : Seen H R (.view es) (.view es')) : Seen H R (.cv es) (.view es')
  | fn {f : FuncId} {cs cs' fs fs' : List AV} (hl : cs'.length = cs.length) (hm : fs'.length = fs.length) (h : ∀ (i : Nat) (a b : AV), cs[i]? = some a → cs'[i]? = some b → Seen H R a b)
      (h' : ∀ (i : Nat) (a b : AV), fs[i]? = some a → fs'[i]? = some b → Seen H R a b) : Seen H R (.fn f cs fs) (.fn f cs' fs')
  | agg {cs cs' : List AV} (hl : cs'.length = cs.length) (h : ∀ (i : Nat) (a b : AV), cs[i]? = some a → cs'[i]? = some b → Seen H R a b) : Seen H R (.agg cs) (.agg cs')
  | tup {cs cs' : List AV} (hl : cs'.length = cs.length) (h : ∀ (i : Nat) (a b : AV), cs[i]? = some a → cs'[i]? = some b → Seen H R a b) : Seen H R (.tup cs) (.tup cs')
  | opt {c : Bool} {a b : AV} (h : Seen H R a b) : Seen H R (.opt c a) (.opt c b)

/-- No name in it. -/
def Closed (a : AV) : Prop := Seen [] (fun _ _ => False) a a

theorem Seen.mono {H H' : List AObj} {R R' : Nat → Nat → Prop} {a b : AV} (h : Seen H R a b) (hR : ∀ i j, R i j → R' i j) (hH : H = [] ∨ (H = H' ∧ ∀ i, (∀ j, ¬ R i j) → ∀ j, ¬ R' i j)) : Seen H' R' a b := by
  induction h with
  | any a => exact .any a
  | bool b => exact .bool b
  | int k n => exact .int k n
  | str s => exact .str s
  | val v => exact .val v
  | nilp => exact .nilp
  | nils => exact .nils
  | nilv => exact .nilv
  | nilm => exact .nilm
  | ptr h => exact .ptr (hR _ _ h)
  | sl h => exact .sl (hR _ _ h)
  | map h => exact .map (hR _ _ h)
  | vp hl h ih => exact .vp hl ih
  | view hl hr h ih => exact .view hl hr ih
  | fz ho hn hb hl hr h ih =>
    rcases hH with hH | ⟨hH, hH'⟩
    · rw [hH] at ho; simp at ho
    · subst hH
      exact .fz ho (hH' _ hn) hb hl hr ih
  | fzp ho hn hr hl h ih =>
    rcases hH with hH | ⟨hH, hH'⟩
    · rw [hH] at ho; simp at ho
    · subst hH
      exact .fzp ho (hH' _ hn) hr hl ih
  | cv h ih => exact .cv ih
  | cvv h ih => exact .cvv ih
  | fn hl hm h h' ih ih' => exact .fn hl hm ih ih'
  | agg hl h ih => exact .agg hl ih
  | tup hl h ih => exact .tup hl ih
  | opt h ih => exact .opt ih
theorem Closed.seen {a : AV} (h : Closed a) (H : List AObj) (R : Nat → Nat → Prop) : Seen H R a a := h.mono (fun _ _ h => h.elim) (.inl rfl)

/-- The same world under other names. -/
structure Other (H : List AObj) (R : Nat → Nat → Prop) (E E' : Env) : Prop where
  w : E'.w = E.w
  free : ∀ b, E.free b → E'.free b
  ids : ∀ i j, R i j → j < E'.n ∧ ∀ l, E'.s j = some l → E.s i = some l
  hp : H = [] ∨ HRel E H
  freed : H = [] ∨ ∀ i l, E.s i = some l → (∀ j, ¬ R i j) → E'.free l.b

theorem get_of_len {α β : Type} {as : List α} {bs : List β} (h : bs.length = as.length) {i : Nat} {b : β} (hb : bs[i]? = some b) : ∃ a, as[i]? = some a :=
  ⟨as[i]'(by have := (List.getElem?_eq_some_iff.1 hb).1; omega), List.getElem?_eq_getElem _⟩

theorem Seen.rel {H : List AObj} {R : Nat → Nat → Prop} {E E' : Env} (o : Other H R E E') {a b : AV} (h : Seen H R a b) : ∀ v, VRel E a v → VRel E' b v := by
  have cell : ∀ p, E'.w.cell? p = E.w.cell? p := fun p => by rw [o.w]
  induction h with
  | any a => exact fun v _ => .any v
  | bool b => intro v h; cases h; exact .bool b
  | int k n => intro v h; cases h; exact .int k n
  | str s => intro v h; cases h; exact .str s
  | val v => intro v h; cases h; exact .val _
  | nilp => intro v h; cases h; exact .nilp
  | nils => intro v h; cases h; exact .nils
  | nilv => intro v h; cases h; exact .view0 _ _
  | nilm => intro v h; cases h; exact .nilm
  | ptr h =>
    intro v hv
    obtain ⟨h1, h2⟩ := o.ids _ _ h
    cases hv with
    | ptr hid h3 h4 => exact .ptr h1 h3 fun l hl => h4 l (h2 l hl)
  | sl h =>
    intro v hv
    obtain ⟨h1, h2⟩ := o.ids _ _ h
    cases hv with
    | sl hid h3 h4 =>
      exact .sl h1 h3 fun l hl => by
        obtain ⟨cap, i', e1, e2, e3, e4⟩ := h4 l (h2 l hl)
        exact ⟨cap, i', e1, e2, by unfold Env.room at *; rw [o.w]; exact e3, e4⟩
  | map h =>
    intro v hv
    obtain ⟨h1, h2⟩ := o.ids _ _ h
    cases hv with
    | map hid h3 h4 => exact .map h1 h3 fun l hl => h4 l (h2 l hl)
  | vp hl h ih =>
    intro v hv
    cases hv with
    | vp c hb hc h1 hh =>
      exact .vp c (o.free _ hb) (fun j hj => by rw [cell]; exact hc j (by omega)) (fun j hj => h1 j (by omega)) fun j b hb' => by
        obtain ⟨a, ha⟩ := get_of_len hl hb'
        exact ih j a b ha hb' _ (hh j a ha)
  | @view es es' hl hr h ih =>
    intro v hv
    cases hv with
    | view0 q cap => 
      cases es' with
      | nil => exact .view0 q cap
      | cons => simp at hl
    | @view _ b off cap sz c hb hcap hsz hc h1 hh =>
      rw [← hl]
      refine .view (sz := sz) c (o.free _ hb) (by omega) (fun i r' hi => ?_) (fun i j hi hj => by rw [cell]; exact hc i j (by omega) hj) (fun i j hi hj => h1 i j (by omega) hj) fun i r' j b hi hj => ?_
      · obtain ⟨r, hr'⟩ := get_of_len hl hi
        rw [hr i r r' hr' hi]; exact hsz i r hr'
      · obtain ⟨r, hr'⟩ := get_of_len hl hi
        obtain ⟨a, ha⟩ := get_of_len (hr i r r' hr' hi) hj
        exact ih i r r' j a b hr' hi ha hj _ (hh i r j a hr' ha)
  | @fz i sz r l rs es' ho hn hb hl hr h ih =>
    intro v hv
    have hne : H ≠ [] := by rintro rfl; simp at ho
    have hp := o.hp.resolve_left hne
    have freed := o.freed.resolve_left hne
    by_cases hl0 : l = 0
    · subst hl0
      have e0 : es' = [] := List.length_eq_zero_iff.1 hl
      subst e0
      obtain ⟨lc, h1, h2⟩ := hp.get ho (by simp)
      cases hv with
      | sl hid h3 h4 =>
        obtain ⟨cap, i', e1, e2, e3⟩ := h4 lc h1
        rw [e1]
        exact .view0 _ _
    obtain ⟨lc, h1, cap, h2, h3, h4⟩ : ∃ lc, E.s i = some lc ∧ ∃ cap, v = .slice (some ⟨lc.b, lc.base + r * lc.sz, none⟩) l cap ∧ l ≤ cap ∧ ORel E (.rows sz rs) lc := by
      obtain ⟨lc, h1, h2⟩ := hp.get ho (by simp)
      cases hv with
      | sl hid h3 h4 =>
        obtain ⟨cap, i', e1, e2, e3, e4⟩ := h4 lc h1
        obtain rfl : i' = r := e4.resolve_right (by omega)
        exact ⟨lc, h1, cap, e1, e2, h2⟩
    subst h2
    cases h4 with
    | rows cs e hs hbk hlen hrl h1c hh =>
      subst hl
      have hsz : ∀ (k : Nat) (x' : List AV), es'[k]? = some x' → x'.length = sz := fun k x' hk => by
        have hlt := (List.getElem?_eq_some_iff.1 hk).1
        have hx : rs[r + k]? = some (rs[r + k]'(by omega)) := List.getElem?_eq_getElem (by omega)
        rw [hr k _ x' hx hk]
        exact hrl _ _ hx
      have idx : ∀ k j, k < es'.length → j < sz → lc.base + r * lc.sz + k * sz + j < cs.size ∧ (r + k) * sz + j < rs.length * sz ∧ lc.base + r * lc.sz + k * sz + j = lc.base + ((r + k) * sz + j) := fun k j hk hj => by
        have h1 : (r + k) * sz = r * sz + k * sz := Nat.add_mul _ _ _
        have h2 : (r + k + 1) * sz ≤ rs.length * sz := Nat.mul_le_mul_right _ (by omega)
        have h3 : (r + k + 1) * sz = (r + k) * sz + sz := by rw [Nat.add_mul, Nat.one_mul]
        rw [hs]
        omega
      refine .view (sz := sz) (fun k j => cs.getD (lc.base + r * lc.sz + k * sz + j) undef) (freed i lc h1 hn) h3 hsz (fun k j hk hj => ?_) (fun k j hk hj => ?_) (fun k x' j b hk hj => ?_)
      · obtain ⟨e1, e2, e3⟩ := idx k j hk hj
        rw [cell]
        simp only [World.cell?, hbk]
        simp [Array.getD_eq_getD_getElem?, Array.getElem?_eq_getElem e1]
      · obtain ⟨e1, e2, e3⟩ := idx k j hk hj
        refine h1c ((r + k) * sz + j) _ e2 ?_
        rw [← e3]
        simp [Array.getD_eq_getD_getElem?, Array.getElem?_eq_getElem e1]
      · have hlt := (List.getElem?_eq_some_iff.1 hk).1
        have hx : rs[r + k]? = some (rs[r + k]'(by omega)) := List.getElem?_eq_getElem (by omega)
        have hjl := (List.getElem?_eq_some_iff.1 hj).1
        obtain ⟨a, ha⟩ := get_of_len (hr k _ x' hx hk) hj
        obtain ⟨e1, e2, e3⟩ := idx k j hlt (by rw [hsz k x' hk] at hjl; exact hjl)
        refine ih k _ x' j a b hx hk ha hj _ (hh (r + k) _ j a _ hx ha ?_)
        rw [show lc.base + (r + k) * sz + j = lc.base + r * lc.sz + k * sz + j by omega]
        simp [Array.getD_eq_getD_getElem?, Array.getElem?_eq_getElem e1]
  | @fzp i sz r off rs row row' ho hn hr hl h ih =>
    intro v hv
    have hne : H ≠ [] := by rintro rfl; simp at ho
    have hp := o.hp.resolve_left hne
    have freed := o.freed.resolve_left hne
    obtain ⟨lc, h1, h2, h4⟩ : ∃ lc, E.s i = some lc ∧ v = .pointer (some ⟨lc.b, lc.base + r * lc.sz + off, none⟩) ∧ ORel E (.rows sz rs) lc := by
      obtain ⟨lc, h1, h2⟩ := hp.get ho (by simp)
      cases hv with
      | ptr hid h3 h4 => exact ⟨lc, h1, h4 lc h1, h2⟩
    subst h2
    cases h4 with
    | rows cs e hs hbk hlen hrl h1c hh =>
      have hrlt := (List.getElem?_eq_some_iff.1 hr).1
      have hsz : row'.length = sz := by rw [hl]; exact hrl _ _ hr
      have idx : ∀ j, j < sz → lc.base + r * lc.sz + j < cs.size ∧ r * sz + j < rs.length * sz ∧ lc.base + r * lc.sz + j = lc.base + (r * sz + j) := fun j hj => by
        have h2 : (r + 1) * sz ≤ rs.length * sz := Nat.mul_le_mul_right _ (by omega)
        have h3 : (r + 1) * sz = r * sz + sz := by rw [Nat.add_mul, Nat.one_mul]
        rw [hs]
        omega
      refine .vp (fun j => cs.getD (lc.base + r * lc.sz + j) undef) (freed i lc h1 hn) (fun j hj => ?_) (fun j hj => ?_) fun j b hb' => ?_
      · obtain ⟨e1, e2, e3⟩ := idx j (by omega)
        rw [cell]
        simp only [World.cell?, hbk]
        simp [Array.getD_eq_getD_getElem?, Array.getElem?_eq_getElem e1]
      · obtain ⟨e1, e2, e3⟩ := idx j (by omega)
        refine h1c (r * sz + j) _ e2 ?_
        rw [← e3]
        simp [Array.getD_eq_getD_getElem?, Array.getElem?_eq_getElem e1]
      · have hjl := (List.getElem?_eq_some_iff.1 hb').1
        obtain ⟨a, ha⟩ := get_of_len hl hb'
        obtain ⟨e1, e2, e3⟩ := idx j (by omega)
        refine ih j a b ha hb' _ (hh r _ j a _ hr ha ?_)
        rw [show lc.base + r * sz + j = lc.base + r * lc.sz + j by omega]
        simp [Array.getD_eq_getD_getElem?, Array.getElem?_eq_getElem e1]
  | @fn f cs cs' fs fs' hl hm h h' ih ih' =>
    intro v hv
    cases hv with
    | fn hl1 hm1 hh hh' =>
      exact .fn (hl1.trans hl.symm) (hm1.trans hm.symm) (fun i b v hb hv => by
        obtain ⟨a, ha⟩ := get_of_len hl hb
        exact ih i a b ha hb v (hh i a v ha hv)) fun i b v hb hv => by
        obtain ⟨a, ha⟩ := get_of_len hm hb
        exact ih' i a b ha hb v (hh' i a v ha hv)
  | agg hl h ih =>
    intro v hv
    cases hv with
    | agg hl1 h1 hh =>
      exact .agg (hl1.trans hl.symm) h1 fun i b v hb hv => by
        obtain ⟨a, ha⟩ := get_of_len hl hb
        exact ih i a b ha hb v (hh i a v ha hv)
  | tup hl h ih =>
    intro v hv
    cases hv with
    | tup hl1 hh =>
      exact .tup (hl1.trans hl.symm) fun i b v hb hv => by
        obtain ⟨a, ha⟩ := get_of_len hl hb
        exact ih i a b ha hb v (hh i a v ha hv)
  | cv h ih =>
    intro v hv
    cases hv with
    | cv hv hc => exact .cv (ih v hv) hc
  | cvv h ih =>
    intro v hv
    cases hv with
    | cv hv hc => exact ih v hv
  | opt h ih =>
    intro v hv
    cases hv with
    | opt h1 h2 => exact .opt (fun hc => ih v (h1 hc)) h2

/-- The same of an object. -/
inductive SeenO (H : List AObj) (R : Nat → Nat → Prop) : AObj → AObj → Prop
  | dead (o : AObj) : SeenO H R o .dead
  | rows {sz : Nat} {rs rs' : List (List AV)} (hl : rs'.length = rs.length) (hr : ∀ (i : Nat) (r r' : List AV), rs[i]? = some r → rs'[i]? = some r' → r'.length = r.length)
      (h : ∀ (i : Nat) (r r' : List AV) (j : Nat) (a b : AV), rs[i]? = some r → rs'[i]? = some r' → r[j]? = some a → r'[j]? = some b → Seen H R a b) : SeenO H R (.rows sz rs) (.rows sz rs')
  /-- Fewer rows are told of. -/
  | cut {sz : Nat} {rs rs' : List (List AV)} (n : Nat) (hl : rs'.length = (rs.take n).length) (hr : ∀ (i : Nat) (r r' : List AV), (rs.take n)[i]? = some r → rs'[i]? = some r' → r'.length = r.length)
      (h : ∀ (i : Nat) (r r' : List AV) (j : Nat) (a b : AV), (rs.take n)[i]? = some r → rs'[i]? = some r' → r[j]? = some a → r'[j]? = some b → Seen H R a b) : SeenO H R (.rows sz rs) (.rows sz rs')
  | imap {es es' : List (Int × AV)} (hl : es'.length = es.length) (h : ∀ (i : Nat) (a b : Int × AV), es[i]? = some a → es'[i]? = some b → b.1 = a.1 ∧ Seen H R a.2 b.2) : SeenO H R (.imap es) (.imap es')
  /-- Less is told of a thing. -/
  | thing {τ σ : Type} {x : τ} {y : σ} {P P' : Env → Loc → Prop} (h : ∀ E l, P E l → P' E l) : SeenO H R (.thing x P) (.thing y P')

theorem ORel.take {E : Env} {sz : Nat} {rs : List (List AV)} {l : Loc} (n : Nat) (h : ORel E (.rows sz rs) l) : ORel E (.rows sz (rs.take n)) l := by
  cases h with
  | rows cs e hs hb hlen hrl h1 hh =>
    have hle : (rs.take n).length ≤ rs.length := by simp; omega
    have hm : (rs.take n).length * sz ≤ rs.length * sz := Nat.mul_le_mul_right _ hle
    have at_ : ∀ (i : Nat) (r : List AV), (rs.take n)[i]? = some r → rs[i]? = some r := fun i r h => by
      rw [List.getElem?_take] at h
      split at h
      · exact h
      · cases h
    exact .rows cs e hs hb (by omega) (fun i r h => hrl i r (at_ i r h)) (fun k v hk hv => h1 k v (by omega) hv) fun i r j a v h2 h3 h4 => hh i r j a v (at_ i r h2) h3 h4
theorem SeenO.rel {H : List AObj} {R : Nat → Nat → Prop} {E E' : Env} (o : Other H R E E') {x y : AObj} (h : SeenO H R x y) (hd : y ≠ .dead) {l : Loc} (hs : ∀ b, E'.inn l.b b ↔ E.inn l.b b) (hx : ORel E x l) : ORel E' y l := by
  cases h with
  | thing h =>
    cases hx with
    | thing hb hx => exact .thing (by rw [o.w]; exact hb) fun E2 h2 => h _ _ (hx E2 (Later.trans ⟨by rw [o.w]; exact Nat.le_refl _, fun b _ => by rw [o.w], hs, fun b hb => ⟨by rw [o.w], o.free b hb⟩, fun b cs e fr hb => ⟨cs, by rw [o.w]; exact hb, rfl⟩⟩ h2))
  | dead => exact absurd rfl hd
  | rows hl hr h =>
    cases hx with
    | rows cs e hs hb hlen hrl h1 hh =>
      exact .rows cs e hs (by rw [o.w]; exact hb) (by rw [hl]; exact hlen) (fun i r' hi => by
        obtain ⟨r, hr'⟩ := get_of_len hl hi
        rw [hr i r r' hr' hi]; exact hrl i r hr') (fun k v hk hv => h1 k v (by rw [hl] at hk; exact hk) hv) fun i r' j b v hi hj hv => by
        obtain ⟨r, hr'⟩ := get_of_len hl hi
        obtain ⟨a, ha⟩ := get_of_len (hr i r r' hr' hi) hj
        exact (h i r r' j a b hr' hi ha hj).rel o v (hh i r j a v hr' ha hv)
  | cut n hl hr h =>
    have hx := hx.take n
    cases hx with
    | rows cs e hs hb hlen hrl h1 hh =>
      exact .rows cs e hs (by rw [o.w]; exact hb) (by rw [hl]; exact hlen) (fun i r' hi => by
        obtain ⟨r, hr'⟩ := get_of_len hl hi
        rw [hr i r r' hr' hi]; exact hrl i r hr') (fun k v hk hv => h1 k v (by rw [hl] at hk; exact hk) hv) fun i r' j b v hi hj hv => by
        obtain ⟨r, hr'⟩ := get_of_len hl hi
        obtain ⟨a, ha⟩ := get_of_len (hr i r r' hr' hi) hj
        exact (h i r r' j a b hr' hi ha hj).rel o v (hh i r j a v hr' ha hv)
  | imap hl h =>
    cases hx with
    | imap ms ck hb hmo hlen hk =>
      exact .imap ms ck (by rw [o.w]; exact hb) hmo (by rw [hl]; exact hlen) fun i b m hb' hm => by
        obtain ⟨a, ha⟩ := get_of_len hl hb'
        obtain ⟨h1, h2⟩ := h i a b ha hb'
        obtain ⟨h3, h4⟩ := hk i a m ha hm
        exact ⟨by rw [h3, h1], h2.rel o _ h4⟩

/-! ### names struck and named anew; g: the elder name of each name -/
def byG (g : List Nat) (i j : Nat) : Prop := g[j]? = some i
structure Shed (m : Nat) (g : List Nat) (H H' : List AObj) : Prop where
  len : H'.length = g.length
  low : m ≤ g.length
  keep : ∀ (j : Nat), j < m → g[j]? = some j
  nodup : ∀ (i j k : Nat), g[i]? = some k → g[j]? = some k → i = j
  obj : ∀ (j i : Nat) o', g[j]? = some i → H'[j]? = some o' → o' ≠ .dead → ∃ o, H[i]? = some o ∧ SeenO H (byG g) o o'

theorem Shed.other {m : Nat} {g : List Nat} {H H' : List AObj} (h : Shed m g H H') {E : Env} (hH : HRel E H) (hm : m ≤ E.n) : ∃ E', E'.w = E.w ∧ Other H (byG g) E E' ∧ HRel E' H' ∧ Ext m E E' := by
  let s' : Nat → Option Loc := fun j => match H'[j]? with
    | some .dead => none
    | none => none
    | some _ => (g[j]?).bind E.s
  have hs : ∀ j l, s' j = some l → ∃ i o', g[j]? = some i ∧ E.s i = some l ∧ H'[j]? = some o' ∧ o' ≠ .dead := fun j l hj => by
    simp only [s'] at hj
    split at hj
    · cases hj
    · cases hj
    · rename_i o' hd e
      obtain ⟨i, h1, h2⟩ := Option.bind_eq_some_iff.1 hj
      exact ⟨i, o', h1, h2, e, fun hh => hd hh⟩
  have free : ∀ b, E.free b → (⟨E.w, s', g.length, E.x⟩ : Env).free b := fun b hb => ⟨hb.1, fun j l hj => (by
    obtain ⟨i, o', h1, h2, h3, h4⟩ := hs j l hj
    exact hb.2.1 i l h2), hb.2.2⟩
  have oth : Other H (byG g) E ⟨E.w, s', g.length, E.x⟩ := by
    refine ⟨rfl, free, fun i j hij => ⟨(List.getElem?_eq_some_iff.1 hij).1, fun l hl => ?_⟩, .inr hH, .inr fun i l hi hn => ⟨hH.own_lt hi, fun j l' hj e => ?_, hH.apart i l hi⟩⟩
    · obtain ⟨i', o', h1, h2, _⟩ := hs j l hl
      simp only [byG] at hij
      rw [hij] at h1; cases h1
      exact h2
    · obtain ⟨i', o', h1, h2, _⟩ := hs j l' hj
      have := hH.inj _ _ _ _ h2 hi e
      subst this
      exact hn j h1
  refine ⟨⟨E.w, s', g.length, E.x⟩, rfl, oth, ⟨h.len.symm, fun j l hj => ?_, fun j o' ho hd => ?_, fun i j li lj hi hj e => ?_, fun j l hj => ?_, hH.xlt⟩, ⟨rfl, rfl, rfl, Nat.le_refl _, fun b hb => ⟨rfl, free b hb⟩, fun j l hj hl => ?_, fun b cs e fr hb => ⟨cs, hb, rfl⟩, h.low, fun _ => Iff.rfl, fun _ _ => rfl⟩⟩
  · obtain ⟨i, o', h1, h2, h3, h4⟩ := hs j l hj
    obtain ⟨o, h5, h6⟩ := h.obj j i o' h1 h3 h4
    obtain ⟨o2, h7, h8⟩ := hH.has i l h2
    rw [h5] at h7; cases h7
    exact ⟨o', h3, h6.rel oth h4 (fun _ => Iff.rfl) h8⟩
  · have hlt := (List.getElem?_eq_some_iff.1 ho).1
    rw [h.len] at hlt
    have hg : g[j]? = some g[j] := List.getElem?_eq_getElem hlt
    obtain ⟨o, h5, h6⟩ := h.obj j _ o' hg ho hd
    have hod : o ≠ .dead := by rintro rfl; cases h6; exact hd rfl
    obtain ⟨l, hl⟩ := hH.live _ o h5 hod
    refine ⟨l, ?_⟩
    have e : s' j = (g[j]?).bind E.s := by
      simp only [s', ho]
    show s' j = some l
    rw [e, hg]
    exact hl
  · obtain ⟨a, _, h1, h2, _⟩ := hs i li hi
    obtain ⟨b, _, h3, h4, _⟩ := hs j lj hj
    have := hH.inj _ _ _ _ h2 h4 e
    subst this
    exact h.nodup i j _ h1 h3
  · obtain ⟨a, _, h1, h2, _⟩ := hs j l hj
    exact hH.apart a l h2
  · obtain ⟨a, _, h1, h2, _⟩ := hs j l hl
    rw [h.keep j hj] at h1; cases h1
    exact h2

theorem Shed.weak {m : Nat} {g : List Nat} {s s' : AS} (h : Shed m g s.hp s'.hp) (ht : ∀ i, Seen s.hp (byG g) (look1 s.tm i) (look1 s'.tm i)) : Weak m s s' := fun nt E a hs hm => by
  obtain ⟨E', e1, e2, e3, e4⟩ := h.other hs.hp hm
  exact ⟨E', e1, ⟨hs.defers, hs.len, fun i => (ht i).rel e2 _ (hs.tm i), e3⟩, e4⟩
theorem Shed.weakR {m : Nat} {g : List Nat} {x x' : AV} {H H' : List AObj} (h : Shed m g H H') (hx : Seen H (byG g) x x') : WeakR m x H x' H' := fun E v hv hH hm => by
  obtain ⟨E', e1, e2, e3, e4⟩ := h.other hH hm
  exact ⟨E', e1, hx.rel e2 _ hv, e3, e4⟩
theorem WeakR.refl {m : Nat} {x : AV} {H : List AObj} : WeakR m x H x H := fun E v hv hH hm => ⟨E, rfl, hv, hH, Ext.refl hm⟩
end Go.Proofs.Ytnjpfoblmomnlaa.Sx
/- What a function does over a small heap, it does in a great one that holds the same objects under other names ('Det.frame'). No conditions: a kit of our own. -/
namespace Go.Proofs.Ytnjpfoblmomnlaa.Sx
open Go Go.RowKit
set_option linter.unusedVariables false
set_option linter.unusedSimpArgs false

/-- The great heap's names of the small heap's objects, and of the new ones behind them. -/
def names (ids : List Nat) (n k : Nat) : List Nat := ids ++ (List.range k).map (n + ·)
def byN (g : List Nat) (j i : Nat) : Prop := g[j]? = some i

/-- H: the great heap; H0: the small one; ids: their names in H; H1: what the small one comes to; H': the great one. -/
structure Frame (ids : List Nat) (H H0 H1 H' : List AObj) : Prop where
  len : H0.length = ids.length
  nodup : ∀ (i j k : Nat), ids[i]? = some k → ids[j]? = some k → i = j
  low : ∀ (j i : Nat), ids[j]? = some i → i < H.length
  obj : ∀ (j i : Nat) o', ids[j]? = some i → H0[j]? = some o' → o' ≠ .dead → ∃ o, H[i]? = some o ∧ SeenO [] (byG ids) o o'
  len1 : ids.length ≤ H1.length
  len' : H'.length = H.length + (H1.length - ids.length)
  new : ∀ (j i : Nat) o', (names ids H.length (H1.length - ids.length))[j]? = some i → H'[i]? = some o' → o' ≠ .dead → ∃ o, H1[j]? = some o ∧ SeenO [] (byN (names ids H.length (H1.length - ids.length))) o o'
  old : ∀ (i : Nat), i < H.length → (∀ j : Nat, ids[j]? ≠ some i) → H'[i]? = H[i]?

theorem names_get {ids : List Nat} {n k j i : Nat} (h : (names ids n k)[j]? = some i) : (j < ids.length ∧ ids[j]? = some i) ∨ (ids.length ≤ j ∧ j < ids.length + k ∧ i = n + (j - ids.length)) := by
  unfold names at h
  by_cases hj : j < ids.length
  · rw [List.getElem?_append_left hj] at h; exact .inl ⟨hj, h⟩
  · rw [List.getElem?_append_right (by omega)] at h
    simp only [List.getElem?_map, Option.map_eq_some_iff] at h
    obtain ⟨a, h1, h2⟩ := h
    have hlt := (List.getElem?_eq_some_iff.1 h1).1
    have hv := (List.getElem?_eq_some_iff.1 h1).2
    simp at hlt hv
    exact .inr ⟨by omega, by omega, by omega⟩

theorem Det.frame {P : Program} {f : FuncId} {ids : List Nat} {H H0 H1 H' : List AObj} {args0 args : List AV} {x0 x : AV} (hd : Det P f args0 H0 x0 H1) (hf : Frame ids H H0 H1 H')
    (ha : Each (Seen [] (byG ids)) args args0) (hx : Seen [] (byN (names ids H.length (H1.length - ids.length))) x0 x) : Det P f args H x H' := by
  obtain ⟨hc, hd⟩ := hd
  refine ⟨hc, fun E vs hH hv => ?_⟩
  let s0 : Nat → Option Loc := fun j => match H0[j]? with
    | some .dead => none
    | none => none
    | some _ => (ids[j]?).bind E.s
  have hs0 : ∀ j l, s0 j = some l → ∃ i o', ids[j]? = some i ∧ E.s i = some l ∧ H0[j]? = some o' ∧ o' ≠ .dead := fun j l hj => by
    simp only [s0] at hj
    split at hj
    · cases hj
    · cases hj
    · rename_i o' hd' e
      obtain ⟨i, h1, h2⟩ := Option.bind_eq_some_iff.1 hj
      exact ⟨i, o', h1, h2, e, fun hh => hd' hh⟩
  -- the small heap's names; what the others own is foreign
  open Classical in
  let E0 : Env := ⟨E.w, s0, ids.length, ⟨fun b => E.x b ∨ ∃ id l, E.s id = some l ∧ l.b = b ∧ ∀ j, s0 j ≠ some l, fun b => if ∃ j l, s0 j = some l ∧ E.inn l.b b then E.x.r b else none⟩⟩
  have hr0 : ∀ b, E0.x.r b = if ∃ j l, s0 j = some l ∧ E.inn l.b b then E.x.r b else none := fun b => rfl
  have inn0 : ∀ j l, s0 j = some l → ∀ b, E0.inn l.b b ↔ E.inn l.b b := fun j l hj b => by
    constructor
    · rintro ⟨h1, h2⟩
      rw [hr0] at h2
      split at h2
      · rename_i hc
        obtain ⟨_, _, _, h3⟩ := hc
        exact ⟨h3.1, h2⟩
      · cases h2
    · intro h
      exact ⟨.inl h.1, by rw [hr0, if_pos ⟨j, l, hj, h⟩]; exact h.2⟩
  have free0 : ∀ b, E.free b → E0.free b := fun b hb => ⟨hb.1, fun j l hj => (by
    obtain ⟨i, o', h1, h2, h3, h4⟩ := hs0 j l hj
    exact hb.2.1 i l h2), fun hx => (by
    rcases hx with hx | ⟨id, l, h1, h2, _⟩
    · exact hb.2.2 hx
    · exact hb.2.1 id l h1 h2)⟩
  have oth0 : Other [] (byG ids) E E0 := ⟨rfl, free0, fun i j hij => ⟨(List.getElem?_eq_some_iff.1 hij).1, fun l hl => by
    obtain ⟨i', o', h1, h2, _⟩ := hs0 j l hl
    simp only [byG] at hij
    rw [hij] at h1; cases h1
    exact h2⟩, .inl rfl, .inl rfl⟩
  have hH0 : HRel E0 H0 := by
    refine ⟨hf.len.symm, fun j l hj => ?_, fun j o' ho hdd => ?_, fun i j li lj hi hj e => ?_, fun j l hj hx => ?_, fun b hx => ?_⟩
    · obtain ⟨i, o', h1, h2, h3, h4⟩ := hs0 j l hj
      obtain ⟨o, h5, h6⟩ := hf.obj j i o' h1 h3 h4
      obtain ⟨o2, h7, h8⟩ := hH.has i l h2
      rw [h5] at h7; cases h7
      exact ⟨o', h3, h6.rel oth0 h4 (inn0 j l hj) h8⟩
    · have hlt := (List.getElem?_eq_some_iff.1 ho).1
      rw [hf.len] at hlt
      have hg : ids[j]? = some ids[j] := List.getElem?_eq_getElem hlt
      obtain ⟨o, h5, h6⟩ := hf.obj j _ o' hg ho hdd
      have hod : o ≠ .dead := by rintro rfl; cases h6; exact hdd rfl
      obtain ⟨l, hl⟩ := hH.live _ o h5 hod
      refine ⟨l, ?_⟩
      have e : s0 j = (ids[j]?).bind E.s := by simp only [s0, ho]
      show s0 j = some l
      rw [e, hg]
      exact hl
    · obtain ⟨a, _, h1, h2, _⟩ := hs0 i li hi
      obtain ⟨b, _, h3, h4, _⟩ := hs0 j lj hj
      have := hH.inj _ _ _ _ h2 h4 e
      subst this
      exact hf.nodup i j _ h1 h3
    · obtain ⟨a, _, h1, h2, _⟩ := hs0 j l hj
      rcases hx with hx | ⟨id, l', h3, h4, h5⟩
      · exact hH.apart a l h2 hx
      · have := hH.inj _ _ _ _ h3 h2 h4
        subst this
        rw [h2] at h3; cases h3
        exact h5 j hj
    · rcases hx with hx | ⟨id, l, h1, h2, _⟩
      · exact hH.xlt b hx
      · rw [← h2]; exact hH.own_lt h1
  have hv0 : VRels E0 args0 vs := ⟨by rw [hv.len, ha.1], fun i a v h1 h2 => by
    obtain ⟨b, hb⟩ := get_of_len ha.1 h1
    exact (ha.2 i b a hb h1).rel oth0 v (hv.at_ i b v hb h2)⟩
  refine (hd E0 vs hH0 hv0).mono fun e w' hr => ?_
  obtain ⟨v, E0', r, H1', he, hw, hrv, hH1, hext, hr1, hr2⟩ := hr
  subst hr1
  subst hr2
  refine ⟨v, ?_⟩
  have hnew := hf.new
  generalize hG : names ids H.length (H1'.length - ids.length) = G at *
  have hGlen : G.length = H1'.length := by rw [← hG]; simp [names]; have := hf.len1; omega
  have hGnd : ∀ (i j k : Nat), G[i]? = some k → G[j]? = some k → i = j := fun i j k h1 h2 => by
    rw [← hG] at h1 h2
    rcases names_get h1 with ⟨a1, a2⟩ | ⟨a1, a2, a3⟩ <;> rcases names_get h2 with ⟨b1, b2⟩ | ⟨b1, b2, b3⟩
    · exact hf.nodup i j k a2 b2
    · have := hf.low i k a2; omega
    · have := hf.low j k b2; omega
    · omega
  open Classical in
  let s' : Nat → Option Loc := fun i => match H'[i]? with
    | some .dead => none
    | none => none
    | some _ => if h : ∃ j : Nat, G[j]? = some i then E0'.s h.choose else E.s i
  have hs' : ∀ i l, s' i = some l → (∃ j o', G[j]? = some i ∧ E0'.s j = some l ∧ H'[i]? = some o' ∧ o' ≠ .dead) ∨ ((∀ j : Nat, G[j]? ≠ some i) ∧ E.s i = some l ∧ H'[i]? = H[i]? ∧ i < H.length) := fun i l hi => by
    simp only [s'] at hi
    split at hi
    · cases hi
    · cases hi
    · rename_i o' hd' e
      split at hi
      · rename_i hex
        exact .inl ⟨hex.choose, o', hex.choose_spec, hi, e, fun hh => hd' hh⟩
      · rename_i hex
        have hlt := hH.id_lt hi
        rw [hH.n] at hlt
        have hn : ∀ j : Nat, G[j]? ≠ some i := fun j hj => hex ⟨j, hj⟩
        refine .inr ⟨hn, hi, hf.old i hlt fun j hj => ?_, hlt⟩
        have hjl := (List.getElem?_eq_some_iff.1 hj).1
        exact hn j (by rw [← hG]; unfold names; rw [List.getElem?_append_left hjl]; exact hj)
  have foreign0 : ∀ i l, (∀ j : Nat, G[j]? ≠ some i) → E.s i = some l → ∀ j l', s0 j = some l' → l'.b ≠ l.b := fun i l hn hi j l' hj e => by
    obtain ⟨i', o', h1, h2, _⟩ := hs0 j l' hj
    have := hH.inj _ _ _ _ h2 hi e
    subst this
    have hjl := (List.getElem?_eq_some_iff.1 h1).1
    exact hn j (by rw [← hG]; unfold names; rw [List.getElem?_append_left hjl]; exact h1)
  have foreign : ∀ i l, (∀ j : Nat, G[j]? ≠ some i) → E.s i = some l → E0.out l.b := fun i l hn hi => ⟨.inr ⟨i, l, hi, rfl, fun j hj => foreign0 i l hn hi j l hj rfl⟩, by
    rw [hr0, if_neg]
    rintro ⟨_, _, _, h⟩
    exact hH.apart i l hi h.1⟩
  have foreignI : ∀ i l, (∀ j : Nat, G[j]? ≠ some i) → E.s i = some l → ∀ b, E.inn l.b b → E0.out b := fun i l hn hi b hb => ⟨.inl hb.1, by
    rw [hr0, if_neg]
    rintro ⟨j, l', h1, h2⟩
    have h3 := h2.2
    rw [hb.2] at h3
    exact foreign0 i l hn hi j l' h1 (Option.some.inj h3).symm⟩
  have outE : ∀ b, E.out b → E0.out b := fun b hb => ⟨.inl hb.1, by rw [hr0, hb.2]; split <;> rfl⟩
  open Classical in
  let E' : Env := ⟨E0'.w, s', H'.length, ⟨fun b => (E.x b ∧ E0.out b ∧ ∀ j l, E0'.s j = some l → E.x.r b ≠ some l.b) ∨ (∃ j l, E0'.s j = some l ∧ E0'.inn l.b b), fun b => if ∃ j l, E0'.s j = some l ∧ E0'.inn l.b b then E0'.x.r b else E.x.r b⟩⟩
  have hp' : ∀ b, E'.x b ↔ (E.x b ∧ E0.out b ∧ ∀ j l, E0'.s j = some l → E.x.r b ≠ some l.b) ∨ (∃ j l, E0'.s j = some l ∧ E0'.inn l.b b) := fun b => Iff.rfl
  have hr' : ∀ b, E'.x.r b = if ∃ j l, E0'.s j = some l ∧ E0'.inn l.b b then E0'.x.r b else E.x.r b := fun b => rfl
  have xout : ∀ b, E0.out b → ¬ ∃ j l, E0'.s j = some l ∧ E0'.inn l.b b := fun b hb ⟨j, l, h1, h2⟩ => by
    have h3 := ((hext.x b).2 hb).2
    have h4 := h2.2
    rw [h3] at h4; cases h4
  have outname : ∀ b, E0.out b → ∀ j l, E0'.s j = some l → l.b ≠ b := fun b hb j l hj e => hH1.apart j l hj (by rw [e]; exact ((hext.x b).2 hb).1)
  have innN : ∀ j l, E0'.s j = some l → ∀ b, E'.inn l.b b ↔ E0'.inn l.b b := fun j l hj b => by
    constructor
    · rintro ⟨h1, h2⟩
      rw [hr'] at h2
      split at h2
      · rename_i hc
        obtain ⟨_, _, _, h3⟩ := hc
        exact ⟨h3.1, h2⟩
      · rename_i hc
        rcases (hp' b).1 h1 with h1 | h1
        · exact absurd h2 (h1.2.2 j l hj)
        · exact absurd h1 hc
    · intro h
      exact ⟨.inr ⟨j, l, hj, h⟩, by rw [hr', if_pos ⟨j, l, hj, h⟩]; exact h.2⟩
  have innO : ∀ i l, (∀ j : Nat, G[j]? ≠ some i) → E.s i = some l → ∀ b, E'.inn l.b b ↔ E.inn l.b b := fun i l hn hi b => by
    have hf := foreign i l hn hi
    constructor
    · rintro ⟨h1, h2⟩
      rw [hr'] at h2
      split at h2
      · rename_i hc
        obtain ⟨j, l', h3, h4⟩ := hc
        have h5 := h4.2
        rw [h2] at h5
        exact absurd (Option.some.inj h5).symm (outname _ hf j l' h3)
      · rename_i hc
        rcases (hp' b).1 h1 with h1 | h1
        · exact ⟨h1.1, h2⟩
        · exact absurd h1 hc
    · intro h
      have ho := foreignI i l hn hi b h
      exact ⟨.inl ⟨h.1, ho, fun j l' hj e => outname _ hf j l' hj (by rw [h.2] at e; exact (Option.some.inj e).symm)⟩, by rw [hr', if_neg (xout b ho)]; exact h.2⟩
  have free' : ∀ b, E0'.free b → E'.free b := fun b hb => ⟨hb.1, fun i l hi e => (by
    rcases hs' i l hi with ⟨j, o', h1, h2, _⟩ | ⟨h1, h2, _⟩
    · exact hb.2.1 j l h2 e
    · exact hb.2.2 (by rw [← e]; exact ((hext.x _).2 (foreign i l h1 h2)).1)), fun hx => hb.2.2 (by
      rcases (hp' b).1 hx with hx | ⟨_, _, _, hx⟩
      · exact ((hext.x b).2 hx.2.1).1
      · exact hx.1)⟩
  have hlen' : H.length ≤ H'.length := by rw [hf.len']; omega
  have ext : Ext H.length E E' := by
    refine ⟨hext.os, hext.tape, hext.output, hext.size, fun b hb => ?_, fun i l hi hl => ?_, hext.room, hlen', fun b => ?_, fun b hb => hext.keepx b (outE b hb)⟩
    · obtain ⟨h1, h2⟩ := hext.keep b (free0 b hb)
      exact ⟨h1, free' b h2⟩
    · rcases hs' i l hl with ⟨j, o', h1, h2, _⟩ | ⟨_, h2, _⟩
      · rw [← hG] at h1
        rcases names_get h1 with ⟨a1, a2⟩ | ⟨a1, a2, a3⟩
        · have h3 := hext.ids j l (by rw [hf.len]; exact a1) h2
          obtain ⟨i', o', h4, h5, _⟩ := hs0 j l h3
          rw [a2] at h4; cases h4
          exact h5
        · omega
      · exact h2
    · constructor
      · rintro ⟨h1, h2⟩
        rw [hr'] at h2
        split at h2
        · rename_i hc
          obtain ⟨_, _, _, h3⟩ := hc
          have := h3.2
          rw [h2] at this; cases this
        · rename_i hc
          rcases (hp' b).1 h1 with h1 | h1
          · exact ⟨h1.1, h2⟩
          · exact absurd h1 hc
      · intro h
        have ho := outE b h
        exact ⟨.inl ⟨h.1, ho, fun j l hj e => by rw [h.2] at e; cases e⟩, by rw [hr', if_neg (xout b ho)]; exact h.2⟩
  have oth : Other [] (byN G) E0' E' := ⟨rfl, free', fun j i hji => ⟨by
    simp only [byN] at hji
    rw [← hG] at hji
    rcases names_get hji with ⟨a1, a2⟩ | ⟨a1, a2, a3⟩
    · have := hf.low j i a2; exact Nat.lt_of_lt_of_le this hlen'
    · show i < H'.length; rw [hf.len']; omega, fun l hl => by
    rcases hs' i l hl with ⟨j', o', h1, h2, _⟩ | ⟨h1, _⟩
    · have := hGnd _ _ _ h1 hji
      subst this
      exact h2
    · exact absurd hji (h1 j)⟩, .inl rfl, .inl rfl⟩
  refine ⟨E', x, H', he, hw, hx.rel oth v hrv, ⟨rfl, fun i l hi => ?_, fun i o' ho hdd => ?_, fun i j li lj hi hj e => ?_, fun i l hi hx => ?_, fun b hb => ?_⟩, ext, rfl, rfl⟩
  · rcases hs' i l hi with ⟨j, o', h1, h2, h3, h4⟩ | ⟨h1, h2, h3, h4⟩
    · obtain ⟨o, h5, h6⟩ := hnew j i o' h1 h3 h4
      obtain ⟨o2, h7, h8⟩ := hH1.has j l h2
      rw [h5] at h7; cases h7
      exact ⟨o', h3, h6.rel oth h4 (innN j l h2) h8⟩
    · obtain ⟨o, h5, h6⟩ := hH.has i l h2
      exact ⟨o, by rw [h3]; exact h5, h6.keep (by rw [hH.n]; exact Nat.le_refl _) ext (hext.keepx _ (foreign i l h1 h2)) fun b => ⟨fun hb => hext.keepx b (foreignI i l h1 h2 b hb), innO i l h1 h2 b⟩⟩
  · show ∃ l, s' i = some l
    by_cases hex : ∃ j : Nat, G[j]? = some i
    · have e : s' i = E0'.s hex.choose := by
        simp only [s', ho]
        rw [dif_pos hex]
      obtain ⟨o, h5, h6⟩ := hnew hex.choose i o' hex.choose_spec ho hdd
      have hod : o ≠ .dead := by rintro rfl; cases h6; exact hdd rfl
      obtain ⟨l, hl⟩ := hH1.live _ o h5 hod
      exact ⟨l, by rw [e]; exact hl⟩
    · have e : s' i = E.s i := by
        simp only [s', ho]
        rw [dif_neg hex]
      have hlt := (List.getElem?_eq_some_iff.1 ho).1
      have hlt' : i < H.length := by
        by_cases hi : i < H.length
        · exact hi
        · have hg : ids.length + (i - H.length) < G.length := by rw [hGlen]; have := hf.len'; have := hf.len1; omega
          refine absurd ⟨ids.length + (i - H.length), ?_⟩ hex
          rw [← hG]
          unfold names
          rw [List.getElem?_append_right (by omega)]
          simp only [List.getElem?_map]
          rw [List.getElem?_range (by have := hf.len'; have := hf.len1; omega)]
          simp; omega
      have hold := hf.old i hlt' fun j hj => hex ⟨j, by
        have hjl := (List.getElem?_eq_some_iff.1 hj).1
        rw [← hG]; unfold names; rw [List.getElem?_append_left hjl]; exact hj⟩
      rw [hold] at ho
      obtain ⟨l, hl⟩ := hH.live i o' ho hdd
      exact ⟨l, by rw [e]; exact hl⟩
  · have hap : ∀ i j li lj, (∃ j' o', G[j']? = some i ∧ E0'.s j' = some li ∧ H'[i]? = some o' ∧ o' ≠ .dead) → ((∀ j' : Nat, G[j']? ≠ some j) ∧ E.s j = some lj) → li.b = lj.b → False := fun i j li lj ⟨j', o', h1, h2, _⟩ ⟨h3, h4⟩ e => hH1.apart j' li h2 (by rw [e]; exact ((hext.x _).2 (foreign j lj h3 h4)).1)
    rcases hs' i li hi with h1 | ⟨h1, h2, _⟩ <;> rcases hs' j lj hj with h3 | ⟨h3, h4, _⟩
    · obtain ⟨a, _, a1, a2, _⟩ := h1
      obtain ⟨b, _, b1, b2, _⟩ := h3
      have := hH1.inj _ _ _ _ a2 b2 e
      subst this
      rw [a1] at b1; cases b1; rfl
    · exact (hap i j li lj h1 ⟨h3, h4⟩ e).elim
    · exact (hap j i lj li h3 ⟨h1, h2⟩ e.symm).elim
    · exact hH.inj _ _ _ _ h2 h4 e
  · rcases hs' i l hi with ⟨j, o', h1, h2, _⟩ | ⟨h1, h2, _⟩
    · rcases (hp' _).1 hx with hx | ⟨_, _, _, hx⟩
      · exact hH1.apart j l h2 ((hext.x _).2 hx.2.1).1
      · exact hH1.apart j l h2 hx.1
    · rcases (hp' _).1 hx with hx | hx
      · exact hH.apart i l h2 hx.1
      · exact xout _ (foreign i l h1 h2) hx
  · rcases (hp' b).1 hb with hb | ⟨_, _, _, hb⟩
    · exact hH1.xlt b ((hext.x b).2 hb.2.1).1
    · exact hH1.xlt b hb.1

/-- A function that needs no heap and leaves none. -/
theorem Det.pure {P : Program} {f : FuncId} {args : List AV} {x : AV} (hd : Det P f args [] x []) (ha : ∀ a ∈ args, Closed a) (hx : Closed x) (H : List AObj) : Det P f args H x H := by
  refine hd.frame (ids := []) (H := H) ⟨rfl, fun i j k h => by simp at h, fun j i h => by simp at h, fun j i o' h => by simp at h, by simp, by simp, fun j i o' h => by simp [names] at h, fun i _ _ => rfl⟩ ⟨rfl, fun i a b h1 h2 => ?_⟩ (hx.seen _ _)
  rw [h1] at h2; cases h2
  exact (ha a (List.mem_of_getElem? h1)).seen _ _
end Go.Proofs.Ytnjpfoblmomnlaa.Sx
