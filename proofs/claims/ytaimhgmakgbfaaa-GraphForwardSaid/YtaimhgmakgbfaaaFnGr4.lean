/- Package graph: nodes told in order, by the closure of Order. No conditions: a kit of our own. -/
import Derived.Test.YtaimhgmakgbfaaaFnGr3
namespace Go.Proofs.Ytaimhgmakgbfaaa.Sx
open Go Go.RowKit
open Hp (mget mput mdel HpS)
set_option linter.unusedVariables false
set_option linter.unusedSimpArgs false

def toldO (N : List Int) (A : List Arc) : List Int := Gr.seqO N A N.length []
theorem told_eq {N : List Int} {A : List Arc} {done : List (Int × Int)} {s : Gr.OrS} (h : Gr.GInv N A done s) (hn : s.h.1 = []) : done.map (·.1) = toldO N A := by
  have hl := Gr.ginv_len h
  have h1 := h.seq (N.length - done.length)
  have h2 := (Gr.ord_end h hn).1
  rw [Gr.gseq_end h2, List.append_nil] at h1
  have : N.length - done.length + (done.map (·.1)).length = N.length := by simp; omega
  rw [this] at h1
  exact h1.symm
/-- A slice of things, none or one's own. -/
def hsl (f q n : Nat) : AV := match f with
  | 0 => .nils
  | _ + 1 => .sl q 0 n
def hob (f sz : Nat) (rs : List (List AV)) : AObj := match f with
  | 0 => .dead
  | _ + 1 => .rows sz rs
@[simp] theorem hsl_zero (q n : Nat) : hsl 0 q n = .nils := rfl
@[simp] theorem hsl_succ (f q n : Nat) : hsl (f + 1) q n = .sl q 0 n := rfl
@[simp] theorem hob_zero (sz : Nat) (rs : List (List AV)) : hob 0 sz rs = .dead := rfl
@[simp] theorem hob_succ (f sz : Nat) (rs : List (List AV)) : hob (f + 1) sz rs = .rows sz rs := rfl
@[simp high] theorem rnO_ie (d : Nat) (g : List Nat) (m : List (Int × Int)) : rnO d g (.imap (m.map ie)) = .imap (m.map ie) := by
  simp only [rnO, List.map_map]
  congr 1
  exact List.map_congr_left fun e _ => by cases d <;> rfl
@[simp high] theorem lowOD_ie (d k : Nat) (m : List (Int × Int)) : lowOD d k (.imap (m.map ie)) = True := eq_true fun e he => by
  obtain ⟨x, _, rfl⟩ := List.mem_map.1 he
  cases d <;> exact .int _ _
@[simp high] theorem rnO_vto (d : Nat) (g : List Nat) (to : List (Int × List Int)) : rnO d g (.imap (to.map (im fun l => .view (l.map Cel.c)))) = .imap (to.map (im fun l => .view (l.map Cel.c))) := by
  simp only [rnO, List.map_map]
  congr 1
  exact List.map_congr_left fun e _ => by cases d <;> rfl
@[simp high] theorem lowOD_vto (d k : Nat) (to : List (Int × List Int)) : lowOD d k (.imap (to.map (im fun l => .view (l.map Cel.c)))) = True := eq_true fun e he => by
  obtain ⟨x, _, rfl⟩ := List.mem_map.1 he
  cases d <;> exact closed_viewc x.2
theorem cvw (N : List Int) : Closed (.view (N.map Cel.c)) = True := eq_true (closed_viewc N)
section
variable {α : Type} [Cel α]
@[simp] theorem bslP_bs {H : List AObj} {b q : Nat} {l : List α} (hq : H[q]? = some (bob (Cel.n α) (l.map Cel.c))) (hne : b ≠ q) : bslP α H b (bs q (l.map Cel.c)) = True := by
  cases l with
  | nil => rfl
  | cons x l =>
    have hr : rowsOf H q = (x :: l).map Cel.c := by simp only [rowsOf, hq, rowsO_bob]
    have h1 : isRows H q := by simp [isRows, hq]
    have h2 : szOf H q = Cel.n α := by simp [szOf, hq, szO]
    refine eq_true ⟨rfl, hne, h1, h2, by rw [hr]; simp, fun row hrow => ?_⟩
    rw [hr] at hrow
    obtain ⟨y, _, rfl⟩ := List.mem_map.1 hrow
    exact Cel.ok_c [] y
@[simp] theorem bslV_bs {H : List AObj} {q : Nat} {l : List α} (hq : H[q]? = some (bob (Cel.n α) (l.map Cel.c))) : bslV α H (bs q (l.map Cel.c)) = l := by
  cases l with
  | nil => rfl
  | cons x l =>
    have hr : rowsOf H q = (x :: l).map Cel.c := by simp only [rowsOf, hq, rowsO_bob]
    show (rowsOf H q).map (Cel.u []) = _
    rw [hr, List.map_map]
    exact map_self fun y _ => Cel.u_c [] y
@[simp] theorem boxN1_bs {H : List AObj} {b q : Nat} {l y : List α} (hq : H[q]? = some (bob (Cel.n α) (l.map Cel.c))) (hne : b ≠ q) : boxN1 H y b (bs q (l.map Cel.c)) = (H.set b (.rows 1 [[.sl H.length 0 y.length]])).set q .dead ++ [.rows (Cel.n α) (y.map Cel.c)] := by
  cases l with
  | nil =>
    show H.set b _ ++ _ = _
    rw [set_same (l := H.set b _) (i := q) (a := AObj.dead)]
    rw [List.getElem?_set_ne hne]; exact hq
  | cons x l => rfl
end
def decr (fr : List (Int × Int)) (to : Int) : List (Int × Int) := mput fr to (Gr.lvOf fr to - 1)
def relFr (N : List Int) (A : List Arc) (told : List Int) : List (Int × Int) := told.foldl (fun fr n => (Gr.tosL N A n).foldl decr fr) (Gr.ofFr N A)
theorem relFr_snoc (N : List Int) (A : List Arc) (told : List Int) (n : Int) : relFr N A (told ++ [n]) = (Gr.tosL N A n).foldl decr (relFr N A told) := by simp [relFr]
theorem cnt_le (N : List Int) (A : List Arc) (told : List Int) (n : Int) : Gr.cntL N A told n ≤ A.length := List.length_filter_le _ _
theorem lev_bound (A : List Arc) (d : List (Int × Int)) (h : ∀ x ∈ d, 0 ≤ x.2 ∧ x.2 < d.length) (n : Int) : 0 ≤ Gr.levR A d n ∧ Gr.levR A d n ≤ d.length := by
  have key : ∀ (e : List (Int × Int)) (v : Int), (∀ x ∈ e, 0 ≤ x.2 ∧ x.2 < d.length) → 0 ≤ v → v ≤ d.length → 0 ≤ e.foldl (fun v d => A.foldl (fun v a => if a.From = d.1 ∧ a.To = n then max v (d.2 + 1) else v) v) v ∧ e.foldl (fun v d => A.foldl (fun v a => if a.From = d.1 ∧ a.To = n then max v (d.2 + 1) else v) v) v ≤ d.length := fun e => by
    induction e with
    | nil => intro v _ h1 h2; exact ⟨h1, h2⟩
    | cons x e ih =>
      intro v he h1 h2
      simp only [List.foldl_cons]
      rw [Gr.fold_max]
      have := he x (by simp)
      refine ih _ (fun y hy => he y (List.mem_cons_of_mem _ hy)) ?_ ?_ <;> split <;> omega
  exact key d 0 h (Int.le_refl _) (by omega)
theorem doneOf_bound (A : List Arc) : ∀ (told : List Int) (d : List (Int × Int)), (∀ x ∈ d, 0 ≤ x.2 ∧ x.2 < d.length) → ∀ x ∈ told.foldl (fun d n => d ++ [(n, Gr.levR A d n)]) d, 0 ≤ x.2 ∧ x.2 < (d.length + told.length : Nat) := fun told => by
  induction told with
  | nil => intro d h x hx; have := h x hx; simpa using this
  | cons n told ih =>
    intro d h x hx
    simp only [List.foldl_cons] at hx
    have hb := lev_bound A d h n
    have := ih (d ++ [(n, Gr.levR A d n)]) (fun y hy => by
      rcases List.mem_append.1 hy with hy | hy
      · have := h y hy; simp; omega
      · rw [List.mem_singleton.1 hy]; simp; omega) x hx
    simp at this ⊢; omega
abbrev vto (to : List (Int × List Int)) : AObj := .imap (to.map (im fun l => .view (l.map Cel.c)))
theorem ginv_bound {N : List Int} {A : List Arc} {done : List (Int × Int)} {s : Gr.OrS} (h : Gr.GInv N A done s) : ∀ x ∈ done, 0 ≤ x.2 ∧ x.2 < done.length := fun x hx => by
  have e := h.dn
  rw [e] at hx
  unfold Gr.doneOf at hx
  have := doneOf_bound A (done.map fun x => x.1) [] (by simp) x hx
  simpa using this
theorem heap_len {N : List Int} {h : HpS} (hp : Hp.HpOk h) (hs : ∀ y, Hp.Mem h.1 y → y.Id ∈ N) : h.1.length ≤ N.length := by
  have := Gr.nodup_len (a := h.1.map (·.Id)) (N := N) (by
    rw [List.Nodup, List.pairwise_iff_getElem]
    intro i j hi hj hij e
    simp at hi hj e
    have := Hp.At.inj hp.at_ hi hj (by simp only [Hp.gt, nth_get hi, nth_get hj]; exact e)
    omega) fun x hx => by
    obtain ⟨y, hy, rfl⟩ := List.mem_map.1 hx
    obtain ⟨j, hj, e⟩ := List.mem_iff_getElem.1 hy
    exact hs y ⟨j, hj, by simp only [Hp.gt, nth_get hj]; exact e⟩
  simpa using this
theorem mx_max (x y : Int) : (if x < y then y else x) = max x y := by split <;> omega
theorem relax_fr (n : Int) (s : Gr.OrS) (to : Int) : (Gr.relax n s to).fr = decr s.fr to := rfl
theorem get5 {a b c d f : Nat} {j i : Nat} (h : [a, b, c, d, f][j]? = some i) : (j = 0 ∧ i = a) ∨ (j = 1 ∧ i = b) ∨ (j = 2 ∧ i = c) ∨ (j = 3 ∧ i = d) ∨ (j = 4 ∧ i = f) := by
  match j with
  | 0 => simp at h; exact .inl ⟨rfl, h.symm⟩
  | 1 => simp at h; exact .inr (.inl ⟨rfl, h.symm⟩)
  | 2 => simp at h; exact .inr (.inr (.inl ⟨rfl, h.symm⟩))
  | 3 => simp at h; exact .inr (.inr (.inr (.inl ⟨rfl, h.symm⟩)))
  | 4 => simp at h; exact .inr (.inr (.inr (.inr ⟨rfl, h.symm⟩)))
  | j + 5 => simp at h
theorem seen_bs {H : List AObj} {R : Nat → Nat → Prop} {i j : Nat} {rs : List (List AV)} (h : R i j) : Seen H R (bs i rs) (bs j rs) := by
  cases rs with
  | nil => exact .nils
  | cons r rs => exact .sl h
theorem seenO_vto {H : List AObj} {R : Nat → Nat → Prop} (to : List (Int × List Int)) : SeenO H R (vto to) (vto to) := .imap rfl fun i a b h1 h2 => by
  rw [h1] at h2; cases h2
  have := List.mem_of_getElem? h1
  simp only [List.mem_map] at this
  obtain ⟨x, _, rfl⟩ := this
  exact ⟨rfl, (closed_viewc x.2).seen _ _⟩
def oH (N : List Int) (to : List (Int × List Int)) (fr : List (Int × Int)) : List AObj := [.rows 1 [[.nils]], .rows 3 [[.view (N.map Cel.c), .map 2, .map 3]], vto to, .imap (fr.map ie)]
def oH1 (N : List Int) (to : List (Int × List Int)) (fr : List (Int × Int)) (out : List Int) : List AObj := [.rows 1 [[bs 4 (out.map Cel.c)]], .rows 3 [[.view (N.map Cel.c), .map 2, .map 3]], vto to, .imap (fr.map ie), bob 1 (out.map Cel.c)]
theorem det_order_O (N : List Int) (A : List Arc) (to : List (Int × List Int)) (hto : ∀ n, Gr.toGet to n = Gr.tosL N A n) (hN : N.Pairwise (· < ·)) (hl : N.length ≤ 1073741823) (hA : A.length ≤ 1073741823) :
    Det Try.prog 75 [.ptr 1 0 0, .fn 76 [] [.ptr 0 0 0]] (oH N to (Gr.ofFr N A)) (.tup []) (oH1 N to (relFr N A (toldO N A)) (toldO N A)) := by
  refine acall_of_vcQ mixed0 (knows_cons known_Hnew (knows_cons known_Hput (knows_cons known_Hpop (knows_cons known_Order_1 knows_nil)))) ok_graph_web_order (by simp) (Q := fun e s => (e = .ret ∨ e = .normal) ∧ s.hp[0]? = some (.rows 1 [[bs 8 ((toldO N A).map Cel.c)]]) ∧ s.hp[1]? = some (.rows 3 [[.view (N.map Cel.c), .map 2, .map 3]]) ∧ s.hp[2]? = some (vto to) ∧ s.hp[3]? = some (.imap ((relFr N A (toldO N A)).map ie)) ∧ s.hp[8]? = some (bob 1 ((toldO N A).map Cel.c))) ?_ ?_
  · simp [ic_graph_web_order, rs_graph_web_order, cHnew, oH]
    refine BackC.genR (fun b : (List (Int × Int) × Gr.OrS) × (Nat × List Int) => ⟨[(0, .ptr 1 0 0), (1, .fn 76 [] [.ptr 0 0 0]), (4, .ptr 4 0 0), (5, .map 6)],
      [.rows 1 [[bs 8 (b.2.2.map Cel.c)]], .rows 3 [[.view (N.map Cel.c), .map 2, .map 3]], vto to, .imap (b.1.2.fr.map ie), .rows 2 [[hsl b.2.1 7 b.1.2.h.1.length, .map 5]], .imap (b.1.2.h.2.map ie), .imap (b.1.2.lv.map ie), hob b.2.1 3 (b.1.2.h.1.map Cel.c), bob 1 (b.2.2.map Cel.c)]⟩)
      (fun b => Gr.GInv N A b.1.1 b.1.2 ∧ (b.2.1 = 0 → b.1.2.h.1 = []) ∧ b.2.2 = b.1.1.map (·.1) ∧ b.1.2.fr = relFr N A (b.1.1.map (·.1))) (fun b => N.length - b.1.1.length) ?_ ?_
    · simp
      refine LoopC.scanR 0 N (fun i (b : Nat × HpS) => ⟨[(0, .ptr 1 0 0), (1, .fn 76 [] [.ptr 0 0 0]), (4, .ptr 4 0 0), (5, .map 6), (17, .view (N.map Cel.c)), (18, .int .i64 N.length), (19, .int .i64 i)],
        [.rows 1 [[.nils]], .rows 3 [[.view (N.map Cel.c), .map 2, .map 3]], vto to, .imap ((Gr.ofFr N A).map ie), .rows 2 [[hsl b.1 7 b.2.1.length, .map 5]], .imap (b.2.2.map ie), .imap [], hob b.1 3 (b.2.1.map Cel.c)]⟩)
        (fun i b r => Gr.Ini (Gr.ofFr N A) (N.take i) b.2 ∧ (b.1 = 0 → b.2.1 = [])) (0, ([], [])) [0, 1, 2, 3, 4, 5, 6, 7] (by simp [atR, gOk, cvw]; decide) ⟨Gr.ini_nil _, fun _ => rfl⟩ (fun i a r b hi ha hd hG => ?_) fun b hG => ?_
      · obtain ⟨f, h⟩ := b
        obtain ⟨h1, h2⟩ := hG
        simp only at h1 h2
        have hnt : a ∉ N.take i := fun hm => by
          obtain ⟨k, hk, e⟩ := List.mem_iff_getElem.1 hm
          simp at hk e
          have := rise_nth hN (i := k) (j := i) (by omega) hi
          rw [ha, nth_get (by omega), e] at this
          omega
        have hs := Gr.ini_step h1 hnt
        have htk : N.take (i + 1) = N.take i ++ [a] := by rw [take_nth hi, ha]
        have hlen := h1.len
        have hml : (N.take i).length ≤ i := by simp; omega
        by_cases h0 : Gr.lvOf (Gr.ofFr N A) a = 0
        · rw [if_pos h0] at hs
          have hnew : mget h.2 a = none := Hp.mget_none.2 fun hk => by
            obtain ⟨j, hj, e⟩ := h1.hp.at_.key _ hk
            exact hnt ((h1.rd a).1 ⟨_, ⟨j, hj, rfl⟩, e⟩).1
          have hlv : (mget (Gr.ofFr N A) a).getD 0 = 0 := h0
          have hb : h.1.length ≤ 1073741823 := by omega
          cases f with
          | zero =>
            have hnil := h2 rfl
            obtain ⟨ha', hm'⟩ := h
            simp only at hnil
            subst hnil
            simp [hi, ha, hlv, cHput, hpA, hpR, hnew]
            refine ⟨by omega, 1, (Hp.putF ([], hm') ⟨a, 0, a⟩).1.1, (Hp.putF ([], hm') ⟨a, 0, a⟩).1.2, ⟨[0, 1, 2, 3, 4, 5, 6, 8], by simp [atR, gOk, cvw]; decide⟩, by rw [htk]; exact hs, by simp⟩
          | succ f =>
            obtain ⟨ha', hm'⟩ := h
            simp [hi, ha, hlv, cHput, hpA, hpR, hnew]
            refine ⟨by simpa using hb, by omega, 1, (Hp.putF (ha', hm') ⟨a, 0, a⟩).1.1, (Hp.putF (ha', hm') ⟨a, 0, a⟩).1.2, ⟨[0, 1, 2, 3, 4, 5, 6, 8], by simp [atR, gOk, cvw]; decide⟩, by rw [htk]; exact hs, by simp⟩
        · rw [if_neg h0] at hs
          have hlv : ¬ (mget (Gr.ofFr N A) a).getD 0 = 0 := h0
          simp [hi, ha, hlv]
          cases f with
          | zero => exact ⟨by omega, 0, h.1, h.2, ⟨[0, 1, 2, 3, 4, 5, 6, 7], by simp [atR, gOk, cvw]; decide⟩, by rw [htk]; exact hs, h2⟩
          | succ f => exact ⟨by omega, 1, h.1, h.2, ⟨[0, 1, 2, 3, 4, 5, 6, 7], by simp [atR, gOk, cvw]; decide⟩, by rw [htk]; exact hs, by simp⟩
      · obtain ⟨f, h⟩ := b
        obtain ⟨h1, h2⟩ := hG
        simp only at h1 h2
        rw [List.take_length] at h1
        simp
        cases f with
        | zero => exact ⟨[], ⟨h, Gr.ofFr N A, []⟩, 0, [], ⟨[0, 1, 2, 3, 4, 5, 6, 7, 8], by simp [atR, gOk, cvw]; decide⟩, Gr.ginv_begin h1, h2, rfl, rfl⟩
        | succ f => exact ⟨[], ⟨h, Gr.ofFr N A, []⟩, 1, [], ⟨[0, 1, 2, 3, 4, 5, 6, 7, 8], by simp [atR, gOk, cvw]; decide⟩, Gr.ginv_begin h1, by simp, rfl, rfl⟩
    · rintro ⟨⟨done, ⟨a, m⟩, fr, lv⟩, f, out⟩ ⟨h1, h2, h3, h4⟩
      simp only at h1 h2 h3 h4
      have hdl := Gr.ginv_len h1
      have hhl : a.length ≤ 1073741823 := by
        have := heap_len (N := N) h1.hp fun y hy => ((h1.rd y.Id).1 ⟨y, hy, rfl⟩).1
        simp only at this
        omega
      have hok : ∀ k, (k = 0 → a = []) → hdok k (a, m) := fun k hk => ⟨⟨hk, by show a.length ≤ _; omega⟩, h1.hp⟩
      by_cases hne : a = []
      · have hp := Hp.pop_nil (a, m) hne
        have ht := told_eq h1 hne
        rw [ht] at h3 h4
        subst hne
        cases f with
        | zero =>
          simp [cHpop, hpA, hpR, hp, hok 0 h2, h3, h4]
        | succ f =>
          simp [cHpop, hpA, hpR, hp, hok 1 (by simp), h3, h4]
      · obtain ⟨n, p1, p2, p3, p4, p5, p6, p7, p8⟩ := Gr.ord_step hN h1 hne
        cases f with
        | zero => exact absurd (h2 rfl) hne
        | succ f =>
          simp only at p1 p8
          have hol : out.length ≤ 1073741823 := by rw [h3]; simp; omega
          have hlb := ginv_bound h1
          have hlv := lev_bound A done hlb n
          have hln : Gr.lvOf lv n = Gr.levR A done n := h1.lv n p2
          have htl := Gr.tosL_len N A n
          have hts := hto n
          have fin : ∀ c : Gr.OrS, Gr.Mid N A done n (Gr.lvOf lv n) [] c → c.fr = (Gr.tosL N A n).foldl decr fr → (Gr.GInv N A (done ++ [(n, Gr.lvOf lv n)]) c ∧ c.fr = relFr N A ((done ++ [(n, Gr.lvOf lv n)]).map (·.1))) := fun c hc hf => ⟨Gr.ord_fin h1 p2 p3 p6 p7 hln hc, by
            rw [hf, h4]; simp [relFr_snoc]⟩
          have hdl' : done.length < N.length := by
            have := Gr.nodup_len (a := n :: done.map (·.1)) (N := N) (List.nodup_cons.2 ⟨p6, h1.nd⟩) fun x hx => by
              rcases List.mem_cons.1 hx with e | e
              · rw [e]; exact p2
              · exact h1.sub x e
            simp at this; omega
          cases hg : mget to n with
          | none =>
            have hnil : Gr.tosL N A n = [] := by rw [← hts]; simp [Gr.toGet, hg]
            rw [hnil] at p8
            obtain ⟨f1, f2⟩ := fin _ p8 (by rw [hnil]; rfl)
            simp [cHpop, hpA, hpR, p1, hok 1 (by simp), boxA, hol, hg]
            refine LoopC.scanR (0 : Int) ([] : List Int) (fun i (b : Unit) => ⟨[(0, .ptr 1 0 0), (1, .fn 76 [] [.ptr 0 0 0]), (4, .ptr 4 0 0), (5, .map 6), (8, .int .i64 n), (53, .nils), (54, .int .i64 0), (55, .int .i64 i)],
              [.rows 1 [[.sl 8 0 (out.length + 1)]], .rows 3 [[.view (N.map Cel.c), .map 2, .map 3]], vto to, .imap (fr.map ie), .rows 2 [[.sl 7 0 (Hp.popF (a, m)).1.1.length, .map 5]], .imap ((Hp.popF (a, m)).1.2.map ie), .imap (lv.map ie), .rows 3 ((Hp.popF (a, m)).1.1.map Cel.c), .rows 1 (out.map Cel.c ++ [[.int .i64 n]])]⟩)
              (fun i b r => True) () [0, 1, 2, 3, 4, 5, 6, 7, 9] (by simp [atR, gOk, cvw]; decide) trivial (fun i a r b hi => by simp at hi) fun b hG => ?_
            simp
            refine ⟨done ++ [(n, Gr.lvOf lv n)], ⟨(Hp.popF (a, m)).1, fr, lv⟩, 1, out ++ [n], ⟨[0, 1, 2, 3, 4, 5, 6, 7, 8], by simp [atR, gOk, cvw]; decide⟩, ⟨f1, by simp, by simp [h3], f2⟩, by simp; omega⟩
          | some L =>
            obtain rfl : L = Gr.tosL N A n := by rw [← hts]; simp [Gr.toGet, hg]
            generalize hL : Gr.tosL N A n = L at *
            simp [cHpop, hpA, hpR, p1, hok 1 (by simp), boxA, hol, hg]
            refine LoopC.scanR (0 : Int) L (fun i (c : Gr.OrS) => ⟨[(0, .ptr 1 0 0), (1, .fn 76 [] [.ptr 0 0 0]), (4, .ptr 4 0 0), (5, .map 6), (8, .int .i64 n), (53, .view (L.map Cel.c)), (54, .int .i64 L.length), (55, .int .i64 i)],
              [.rows 1 [[.sl 8 0 (out.length + 1)]], .rows 3 [[.view (N.map Cel.c), .map 2, .map 3]], vto to, .imap (c.fr.map ie), .rows 2 [[.sl 7 0 c.h.1.length, .map 5]], .imap (c.h.2.map ie), .imap (c.lv.map ie), .rows 3 (c.h.1.map Cel.c), .rows 1 (out.map Cel.c ++ [[.int .i64 n]])]⟩)
              (fun i c r => (Gr.Mid N A done n (Gr.lvOf lv n) r c ∧ r.foldl decr c.fr = L.foldl decr fr) ∧ ∀ x ∈ r, x ∈ L) ⟨(Hp.popF (a, m)).1, fr, lv⟩ [0, 1, 2, 3, 4, 5, 6, 7, 9] (by simp [atR, gOk, cvw]; decide) ⟨⟨p8, rfl⟩, fun x h => h⟩ (fun i b r c hi hb hd hG => ?_) fun c hG => ?_
            · obtain ⟨⟨a', m'⟩, fr', lv'⟩ := c
              obtain ⟨⟨g1, g2⟩, g3⟩ := hG
              simp only at g1 g2
              have hbL := g3 b (by simp)
              have hbN : b ∈ N := (Gr.mem_tosL.1 (by rw [hL]; exact hbL)).2.1
              have mid := Gr.relax_mid p2 (by rw [hL]; exact p4) (by rw [hL]; exact hbL) (p5 b hbL) g1
              have hfr := g1.fr b hbN
              simp only [List.count_cons_self] at hfr
              have hc1 := cnt_le N A (done.map (·.1) ++ [n]) b
              have hc2 : r.count b ≤ r.length := List.count_le_length
              have hrl : r.length + i < L.length + 1 := by
                have := congrArg List.length hd
                simp at this; omega
              have hlb' := g1.lv b hbN
              have hlb2 := lev_bound A done hlb b
              have hln' : Gr.lvOf lv' n = Gr.lvOf lv n := g1.ln
              have hv1 : ∀ k, (mget lv' k).getD 0 = Gr.lvOf lv' k := fun _ => rfl
              have hv2 : ∀ k, (mget fr' k).getD 0 = Gr.lvOf fr' k := fun _ => rfl
              have hhl' : a'.length ≤ 1073741823 := by
                have := heap_len (N := N) g1.hp fun y hy => ((g1.rd y.Id).1 ⟨y, hy, rfl⟩).1
                simp only at this
                omega
              have hmem : Hp.HpOk (a', m') := g1.hp
              by_cases h0 : Gr.lvOf fr' b - 1 = 0
              · have hnew : mget m' b = none := Hp.mget_none.2 fun hk => by
                  obtain ⟨j, hj, e⟩ := hmem.at_.key _ hk
                  have := ((g1.rd b).1 ⟨_, ⟨j, hj, rfl⟩, e⟩).2.2.2
                  simp only [List.count_cons_self] at this
                  omega
                have er : Gr.relax n ⟨(a', m'), fr', lv'⟩ b = ⟨(Hp.putF (a', m') ⟨b, 0, b⟩).1, mput fr' b (Gr.lvOf fr' b - 1), mput lv' b (max (Gr.lvOf lv' b) (Gr.lvOf lv' n + 1))⟩ := by simp only [Gr.relax, h0, if_true]
                rw [er] at mid
                rw [h0] at mid
                simp [hi, hb, hv1, hv2, Hp.mget_put, h0, cHput, hpA, hpR, hnew, mx_max]
                refine ⟨by omega, hhl', by omega, ⟨(Hp.putF (a', m') ⟨b, 0, b⟩).1, mput fr' b 0, mput lv' b (max (Gr.lvOf lv' b) (Gr.lvOf lv' n + 1))⟩, ⟨[0, 1, 2, 3, 4, 5, 6, 9, 8], by simp [atR, gOk, cvw]; decide⟩, ⟨mid, by simpa [decr, h0] using g2⟩, fun x hx => g3 x (List.mem_cons_of_mem _ hx)⟩
              · have er : Gr.relax n ⟨(a', m'), fr', lv'⟩ b = ⟨(a', m'), mput fr' b (Gr.lvOf fr' b - 1), mput lv' b (max (Gr.lvOf lv' b) (Gr.lvOf lv' n + 1))⟩ := by simp only [Gr.relax, h0, if_false]
                rw [er] at mid
                simp [hi, hb, hv1, hv2, Hp.mget_put, h0, cHput, hpA, hpR, mx_max]
                refine ⟨by omega, by omega, by omega, ⟨(a', m'), mput fr' b (Gr.lvOf fr' b - 1), mput lv' b (max (Gr.lvOf lv' b) (Gr.lvOf lv' n + 1))⟩, ⟨[0, 1, 2, 3, 4, 5, 6, 7, 8], by simp [atR, gOk, cvw]; decide⟩, ⟨mid, by simpa [decr] using g2⟩, fun x hx => g3 x (List.mem_cons_of_mem _ hx)⟩
            · obtain ⟨⟨a', m'⟩, fr', lv'⟩ := c
              obtain ⟨⟨g1, g2⟩, g3⟩ := hG
              obtain ⟨f1, f2⟩ := fin _ g1 g2
              simp
              refine ⟨done ++ [(n, Gr.lvOf lv n)], ⟨(a', m'), fr', lv'⟩, 1, out ++ [n], ⟨[0, 1, 2, 3, 4, 5, 6, 7, 8], by simp [atR, gOk, cvw]; decide⟩, ⟨f1, by simp, by simp [h3], f2⟩, by simp; omega⟩
  · rintro e s ⟨he, q0, q1, q2, q3, q8⟩
    have key : fin (oH N to (Gr.ofFr N A)).length rs_graph_web_order (fun y h => y = .tup [] ∧ h = oH1 N to (relFr N A (toldO N A)) (toldO N A)) .normal s := ⟨trivial, .tup [], _, by
      refine Shed.weakR (g := [0, 1, 2, 3, 8]) ⟨rfl, by simp [oH], fun j hj => ?_, fun i j k hi hj => ?_, fun j i o' hj ho' _ => ?_⟩ (closed_tup0.seen _ _)
      · have : j < 4 := hj
        match j with
        | 0 => rfl
        | 1 => rfl
        | 2 => rfl
        | 3 => rfl
        | j + 4 => omega
      · rcases get5 hi with ⟨rfl, rfl⟩ | ⟨rfl, rfl⟩ | ⟨rfl, rfl⟩ | ⟨rfl, rfl⟩ | ⟨rfl, rfl⟩ <;> rcases get5 hj with ⟨rfl, h⟩ | ⟨rfl, h⟩ | ⟨rfl, h⟩ | ⟨rfl, h⟩ | ⟨rfl, h⟩ <;> first | rfl | omega
      · rcases get5 hj with ⟨rfl, rfl⟩ | ⟨rfl, rfl⟩ | ⟨rfl, rfl⟩ | ⟨rfl, rfl⟩ | ⟨rfl, rfl⟩
        · simp only [oH1, List.getElem?_cons_zero, Option.some.injEq] at ho'; subst ho'
          exact ⟨_, q0, seenO_row1 (seen_bs (byG_mk rfl))⟩
        · simp only [oH1, List.getElem?_cons_succ, List.getElem?_cons_zero, Option.some.injEq] at ho'; subst ho'
          exact ⟨_, q1, seenO_row3 ((closed_viewc N).seen _ _) (.map (byG_mk rfl)) (.map (byG_mk rfl))⟩
        · simp only [oH1, List.getElem?_cons_succ, List.getElem?_cons_zero, Option.some.injEq] at ho'; subst ho'
          exact ⟨_, q2, seenO_vto to⟩
        · simp only [oH1, List.getElem?_cons_succ, List.getElem?_cons_zero, Option.some.injEq] at ho'; subst ho'
          exact ⟨_, q3, seenO_ie _⟩
        · simp only [oH1, List.getElem?_cons_succ, List.getElem?_cons_zero, Option.some.injEq] at ho'; subst ho'
          refine ⟨_, q8, ?_⟩
          cases toldO N A with
          | nil => exact .dead _
          | cons x l => exact seenO_cc (x :: l), rfl, rfl⟩
    rcases he with rfl | rfl <;> exact key
end Go.Proofs.Ytaimhgmakgbfaaa.Sx
