/- Package graph: nodes told in order, by the closure of another caller. No conditions: a kit of our own. -/
import Derived.Test.YtaimhgmakgbfaaaFnGr4
namespace Go.Proofs.Ytaimhgmakgbfaaa.Sx
open Go Go.RowKit
open Hp (mget mput mdel HpS)
set_option linter.unusedVariables false
set_option linter.unusedSimpArgs false

def oHL (N : List Int) (to : List (Int × List Int)) (fr : List (Int × Int)) : List AObj := [.rows 3 [[.view (N.map Cel.c), .map 1, .map 2]], vto to, .imap (fr.map ie)]
def oH1L (N : List Int) (to : List (Int × List Int)) (fr : List (Int × Int)) : List AObj := [.rows 3 [[.view (N.map Cel.c), .map 1, .map 2]], vto to, .imap (fr.map ie)]
theorem det_order_L (N : List Int) (A : List Arc) (to : List (Int × List Int)) (hto : ∀ n, Gr.toGet to n = Gr.tosL N A n) (hN : N.Pairwise (· < ·)) (hl : N.length ≤ 1073741823) (hA : A.length ≤ 1073741823) :
    Det Try.prog 75 [.ptr 0 0 0, .fn 79 [] []] (oHL N to (Gr.ofFr N A)) (.tup []) (oH1L N to (relFr N A (toldO N A))) := by
  refine acall_of_vcQ mixed0 (knows_cons known_Hnew (knows_cons known_Hput (knows_cons known_Hpop (knows_cons known_Left_1 knows_nil)))) ok_graph_web_order (by simp) (Q := fun e s => (e = .ret ∨ e = .normal) ∧ s.hp[0]? = some (.rows 3 [[.view (N.map Cel.c), .map 1, .map 2]]) ∧ s.hp[1]? = some (vto to) ∧ s.hp[2]? = some (.imap ((relFr N A (toldO N A)).map ie))) ?_ ?_
  · simp [ic_graph_web_order, rs_graph_web_order, cHnew, oHL]
    refine BackC.genR (fun b : (List (Int × Int) × Gr.OrS) × (Nat × Unit) => ⟨[(0, .ptr 0 0 0), (1, .fn 79 [] []), (4, .ptr 3 0 0), (5, .map 5)],
      [.rows 3 [[.view (N.map Cel.c), .map 1, .map 2]], vto to, .imap (b.1.2.fr.map ie), .rows 2 [[hsl b.2.1 6 b.1.2.h.1.length, .map 4]], .imap (b.1.2.h.2.map ie), .imap (b.1.2.lv.map ie), hob b.2.1 3 (b.1.2.h.1.map Cel.c)]⟩)
      (fun b => Gr.GInv N A b.1.1 b.1.2 ∧ (b.2.1 = 0 → b.1.2.h.1 = []) ∧ b.2.2 = () ∧ b.1.2.fr = relFr N A (b.1.1.map (·.1))) (fun b => N.length - b.1.1.length) ?_ ?_
    · simp
      refine LoopC.scanR 0 N (fun i (b : Nat × HpS) => ⟨[(0, .ptr 0 0 0), (1, .fn 79 [] []), (4, .ptr 3 0 0), (5, .map 5), (17, .view (N.map Cel.c)), (18, .int .i64 N.length), (19, .int .i64 i)],
        [.rows 3 [[.view (N.map Cel.c), .map 1, .map 2]], vto to, .imap ((Gr.ofFr N A).map ie), .rows 2 [[hsl b.1 6 b.2.1.length, .map 4]], .imap (b.2.2.map ie), .imap [], hob b.1 3 (b.2.1.map Cel.c)]⟩)
        (fun i b r => Gr.Ini (Gr.ofFr N A) (N.take i) b.2 ∧ (b.1 = 0 → b.2.1 = [])) (0, ([], [])) [0, 1, 2, 3, 4, 5, 6] (by simp [atR, gOk, cvw]; decide) ⟨Gr.ini_nil _, fun _ => rfl⟩ (fun i a r b hi ha hd hG => ?_) fun b hG => ?_
      · obtain ⟨f, h⟩ := b
        obtain ⟨h1, h2⟩ := hG
        simp only at h1 h2
        have hnt : a ∉ N.take i := fun hm => by
          obtain ⟨k, hk, e⟩ := List.mem_iff_getElem.1 hm
          simp at hk e
          have := rise_nth hN (i := k) (j := i) (by omega) hi
          rw [ha, nth_get (by omega), e] at this
          omega
        have hs := Gr.ini_step h1 hnt
        have htk : N.take (i + 1) = N.take i ++ [a] := by rw [take_nth hi, ha]
        have hlen := h1.len
        have hml : (N.take i).length ≤ i := by simp; omega
        by_cases h0 : Gr.lvOf (Gr.ofFr N A) a = 0
        · rw [if_pos h0] at hs
          have hnew : mget h.2 a = none := Hp.mget_none.2 fun hk => by
            obtain ⟨j, hj, e⟩ := h1.hp.at_.key _ hk
            exact hnt ((h1.rd a).1 ⟨_, ⟨j, hj, rfl⟩, e⟩).1
          have hlv : (mget (Gr.ofFr N A) a).getD 0 = 0 := h0
          have hb : h.1.length ≤ 1073741823 := by omega
          cases f with
          | zero =>
            have hnil := h2 rfl
            obtain ⟨ha', hm'⟩ := h
            simp only at hnil
            subst hnil
            simp [hi, ha, hlv, cHput, hpA, hpR, hnew]
            refine ⟨by omega, 1, (Hp.putF ([], hm') ⟨a, 0, a⟩).1.1, (Hp.putF ([], hm') ⟨a, 0, a⟩).1.2, ⟨[0, 1, 2, 3, 4, 5, 7], by simp [atR, gOk, cvw]; decide⟩, by rw [htk]; exact hs, by simp⟩
          | succ f =>
            obtain ⟨ha', hm'⟩ := h
            simp [hi, ha, hlv, cHput, hpA, hpR, hnew]
            refine ⟨by simpa using hb, by omega, 1, (Hp.putF (ha', hm') ⟨a, 0, a⟩).1.1, (Hp.putF (ha', hm') ⟨a, 0, a⟩).1.2, ⟨[0, 1, 2, 3, 4, 5, 7], by simp [atR, gOk, cvw]; decide⟩, by rw [htk]; exact hs, by simp⟩
        · rw [if_neg h0] at hs
          have hlv : ¬ (mget (Gr.ofFr N A) a).getD 0 = 0 := h0
          simp [hi, ha, hlv]
          cases f with
          | zero => exact ⟨by omega, 0, h.1, h.2, ⟨[0, 1, 2, 3, 4, 5, 6], by simp [atR, gOk, cvw]; decide⟩, by rw [htk]; exact hs, h2⟩
          | succ f => exact ⟨by omega, 1, h.1, h.2, ⟨[0, 1, 2, 3, 4, 5, 6], by simp [atR, gOk, cvw]; decide⟩, by rw [htk]; exact hs, by simp⟩
      · obtain ⟨f, h⟩ := b
        obtain ⟨h1, h2⟩ := hG
        simp only at h1 h2
        rw [List.take_length] at h1
        simp
        cases f with
        | zero => exact ⟨[], ⟨h, Gr.ofFr N A, []⟩, 0, ⟨[0, 1, 2, 3, 4, 5, 6], by simp [atR, gOk, cvw]; decide⟩, Gr.ginv_begin h1, h2, rfl⟩
        | succ f => exact ⟨[], ⟨h, Gr.ofFr N A, []⟩, 1, ⟨[0, 1, 2, 3, 4, 5, 6], by simp [atR, gOk, cvw]; decide⟩, Gr.ginv_begin h1, by simp, rfl⟩
    · rintro ⟨⟨done, ⟨a, m⟩, fr, lv⟩, f, out⟩ ⟨h1, h2, h3, h4⟩
      simp only at h1 h2 h3 h4
      have hdl := Gr.ginv_len h1
      have hhl : a.length ≤ 1073741823 := by
        have := heap_len (N := N) h1.hp fun y hy => ((h1.rd y.Id).1 ⟨y, hy, rfl⟩).1
        simp only at this
        omega
      have hok : ∀ k, (k = 0 → a = []) → hdok k (a, m) := fun k hk => ⟨⟨hk, by show a.length ≤ _; omega⟩, h1.hp⟩
      by_cases hne : a = []
      · have hp := Hp.pop_nil (a, m) hne
        have ht := told_eq h1 hne
        rw [ht] at h4
        subst hne
        cases f with
        | zero =>
          simp [cHpop, hpA, hpR, hp, hok 0 h2, h4]
        | succ f =>
          simp [cHpop, hpA, hpR, hp, hok 1 (by simp), h4]
      · obtain ⟨n, p1, p2, p3, p4, p5, p6, p7, p8⟩ := Gr.ord_step hN h1 hne
        cases f with
        | zero => exact absurd (h2 rfl) hne
        | succ f =>
          simp only at p1 p8
          have hlb := ginv_bound h1
          have hlv := lev_bound A done hlb n
          have hln : Gr.lvOf lv n = Gr.levR A done n := h1.lv n p2
          have htl := Gr.tosL_len N A n
          have hts := hto n
          have fin : ∀ c : Gr.OrS, Gr.Mid N A done n (Gr.lvOf lv n) [] c → c.fr = (Gr.tosL N A n).foldl decr fr → (Gr.GInv N A (done ++ [(n, Gr.lvOf lv n)]) c ∧ c.fr = relFr N A ((done ++ [(n, Gr.lvOf lv n)]).map (·.1))) := fun c hc hf => ⟨Gr.ord_fin h1 p2 p3 p6 p7 hln hc, by
            rw [hf, h4]; simp [relFr_snoc]⟩
          have hdl' : done.length < N.length := by
            have := Gr.nodup_len (a := n :: done.map (·.1)) (N := N) (List.nodup_cons.2 ⟨p6, h1.nd⟩) fun x hx => by
              rcases List.mem_cons.1 hx with e | e
              · rw [e]; exact p2
              · exact h1.sub x e
            simp at this; omega
          cases hg : mget to n with
          | none =>
            have hnil : Gr.tosL N A n = [] := by rw [← hts]; simp [Gr.toGet, hg]
            rw [hnil] at p8
            obtain ⟨f1, f2⟩ := fin _ p8 (by rw [hnil]; rfl)
            simp [cHpop, hpA, hpR, p1, hok 1 (by simp), cLeft_1, hg]
            refine LoopC.scanR (0 : Int) ([] : List Int) (fun i (b : Unit) => ⟨[(0, .ptr 0 0 0), (1, .fn 79 [] []), (4, .ptr 3 0 0), (5, .map 5), (8, .int .i64 n), (53, .nils), (54, .int .i64 0), (55, .int .i64 i)],
              [.rows 3 [[.view (N.map Cel.c), .map 1, .map 2]], vto to, .imap (fr.map ie), .rows 2 [[.sl 6 0 (Hp.popF (a, m)).1.1.length, .map 4]], .imap ((Hp.popF (a, m)).1.2.map ie), .imap (lv.map ie), .rows 3 ((Hp.popF (a, m)).1.1.map Cel.c)]⟩)
              (fun i b r => True) () [0, 1, 2, 3, 4, 5, 6] (by simp [atR, gOk, cvw]; decide) trivial (fun i a r b hi => by simp at hi) fun b hG => ?_
            simp
            refine ⟨done ++ [(n, Gr.lvOf lv n)], ⟨(Hp.popF (a, m)).1, fr, lv⟩, 1, ⟨[0, 1, 2, 3, 4, 5, 6], by simp [atR, gOk, cvw]; decide⟩, ⟨f1, by simp, f2⟩, by simp; omega⟩
          | some L =>
            obtain rfl : L = Gr.tosL N A n := by rw [← hts]; simp [Gr.toGet, hg]
            generalize hL : Gr.tosL N A n = L at *
            simp [cHpop, hpA, hpR, p1, hok 1 (by simp), cLeft_1, hg]
            refine LoopC.scanR (0 : Int) L (fun i (c : Gr.OrS) => ⟨[(0, .ptr 0 0 0), (1, .fn 79 [] []), (4, .ptr 3 0 0), (5, .map 5), (8, .int .i64 n), (53, .view (L.map Cel.c)), (54, .int .i64 L.length), (55, .int .i64 i)],
              [.rows 3 [[.view (N.map Cel.c), .map 1, .map 2]], vto to, .imap (c.fr.map ie), .rows 2 [[.sl 6 0 c.h.1.length, .map 4]], .imap (c.h.2.map ie), .imap (c.lv.map ie), .rows 3 (c.h.1.map Cel.c)]⟩)
              (fun i c r => (Gr.Mid N A done n (Gr.lvOf lv n) r c ∧ r.foldl decr c.fr = L.foldl decr fr) ∧ ∀ x ∈ r, x ∈ L) ⟨(Hp.popF (a, m)).1, fr, lv⟩ [0, 1, 2, 3, 4, 5, 6] (by simp [atR, gOk, cvw]; decide) ⟨⟨p8, rfl⟩, fun x h => h⟩ (fun i b r c hi hb hd hG => ?_) fun c hG => ?_
            · obtain ⟨⟨a', m'⟩, fr', lv'⟩ := c
              obtain ⟨⟨g1, g2⟩, g3⟩ := hG
              simp only at g1 g2
              have hbL := g3 b (by simp)
              have hbN : b ∈ N := (Gr.mem_tosL.1 (by rw [hL]; exact hbL)).2.1
              have mid := Gr.relax_mid p2 (by rw [hL]; exact p4) (by rw [hL]; exact hbL) (p5 b hbL) g1
              have hfr := g1.fr b hbN
              simp only [List.count_cons_self] at hfr
              have hc1 := cnt_le N A (done.map (·.1) ++ [n]) b
              have hc2 : r.count b ≤ r.length := List.count_le_length
              have hrl : r.length + i < L.length + 1 := by
                have := congrArg List.length hd
                simp at this; omega
              have hlb' := g1.lv b hbN
              have hlb2 := lev_bound A done hlb b
              have hln' : Gr.lvOf lv' n = Gr.lvOf lv n := g1.ln
              have hv1 : ∀ k, (mget lv' k).getD 0 = Gr.lvOf lv' k := fun _ => rfl
              have hv2 : ∀ k, (mget fr' k).getD 0 = Gr.lvOf fr' k := fun _ => rfl
              have hhl' : a'.length ≤ 1073741823 := by
                have := heap_len (N := N) g1.hp fun y hy => ((g1.rd y.Id).1 ⟨y, hy, rfl⟩).1
                simp only at this
                omega
              have hmem : Hp.HpOk (a', m') := g1.hp
              by_cases h0 : Gr.lvOf fr' b - 1 = 0
              · have hnew : mget m' b = none := Hp.mget_none.2 fun hk => by
                  obtain ⟨j, hj, e⟩ := hmem.at_.key _ hk
                  have := ((g1.rd b).1 ⟨_, ⟨j, hj, rfl⟩, e⟩).2.2.2
                  simp only [List.count_cons_self] at this
                  omega
                have er : Gr.relax n ⟨(a', m'), fr', lv'⟩ b = ⟨(Hp.putF (a', m') ⟨b, 0, b⟩).1, mput fr' b (Gr.lvOf fr' b - 1), mput lv' b (max (Gr.lvOf lv' b) (Gr.lvOf lv' n + 1))⟩ := by simp only [Gr.relax, h0, if_true]
                rw [er] at mid
                rw [h0] at mid
                simp [hi, hb, hv1, hv2, Hp.mget_put, h0, cHput, hpA, hpR, hnew, mx_max]
                refine ⟨by omega, hhl', by omega, ⟨(Hp.putF (a', m') ⟨b, 0, b⟩).1, mput fr' b 0, mput lv' b (max (Gr.lvOf lv' b) (Gr.lvOf lv' n + 1))⟩, ⟨[0, 1, 2, 3, 4, 5, 7], by simp [atR, gOk, cvw]; decide⟩, ⟨mid, by simpa [decr, h0] using g2⟩, fun x hx => g3 x (List.mem_cons_of_mem _ hx)⟩
              · have er : Gr.relax n ⟨(a', m'), fr', lv'⟩ b = ⟨(a', m'), mput fr' b (Gr.lvOf fr' b - 1), mput lv' b (max (Gr.lvOf lv' b) (Gr.lvOf lv' n + 1))⟩ := by simp only [Gr.relax, h0, if_false]
                rw [er] at mid
                simp [hi, hb, hv1, hv2, Hp.mget_put, h0, cHput, hpA, hpR, mx_max]
                refine ⟨by omega, by omega, by omega, ⟨(a', m'), mput fr' b (Gr.lvOf fr' b - 1), mput lv' b (max (Gr.lvOf lv' b) (Gr.lvOf lv' n + 1))⟩, ⟨[0, 1, 2, 3, 4, 5, 6], by simp [atR, gOk, cvw]; decide⟩, ⟨mid, by simpa [decr] using g2⟩, fun x hx => g3 x (List.mem_cons_of_mem _ hx)⟩
            · obtain ⟨⟨a', m'⟩, fr', lv'⟩ := c
              obtain ⟨⟨g1, g2⟩, g3⟩ := hG
              obtain ⟨f1, f2⟩ := fin _ g1 g2
              simp
              refine ⟨done ++ [(n, Gr.lvOf lv n)], ⟨(a', m'), fr', lv'⟩, 1, ⟨[0, 1, 2, 3, 4, 5, 6], by simp [atR, gOk, cvw]; decide⟩, ⟨f1, by simp, f2⟩, by simp; omega⟩
  · rintro e s ⟨he, q0, q1, q2⟩
    have key : fin (oHL N to (Gr.ofFr N A)).length rs_graph_web_order (fun y h => y = .tup [] ∧ h = oH1L N to (relFr N A (toldO N A))) .normal s := ⟨trivial, .tup [], _, by
      refine Shed.weakR (g := [0, 1, 2]) ⟨rfl, by simp [oHL], fun j hj => ?_, fun i j k hi hj => ?_, fun j i o' hj ho' _ => ?_⟩ (closed_tup0.seen _ _)
      · have : j < 3 := hj
        match j with
        | 0 => rfl
        | 1 => rfl
        | 2 => rfl
        | j + 3 => omega
      · rcases get3 hi with ⟨rfl, rfl⟩ | ⟨rfl, rfl⟩ | ⟨rfl, rfl⟩ <;> rcases get3 hj with ⟨rfl, h⟩ | ⟨rfl, h⟩ | ⟨rfl, h⟩ <;> first | rfl | omega
      · rcases get3 hj with ⟨rfl, rfl⟩ | ⟨rfl, rfl⟩ | ⟨rfl, rfl⟩
        · simp only [oH1L, List.getElem?_cons_succ, List.getElem?_cons_zero, Option.some.injEq] at ho'; subst ho'
          exact ⟨_, q0, seenO_row3 ((closed_viewc N).seen _ _) (.map (byG_mk rfl)) (.map (byG_mk rfl))⟩
        · simp only [oH1L, List.getElem?_cons_succ, List.getElem?_cons_zero, Option.some.injEq] at ho'; subst ho'
          exact ⟨_, q1, seenO_vto to⟩
        · simp only [oH1L, List.getElem?_cons_succ, List.getElem?_cons_zero, Option.some.injEq] at ho'; subst ho'
          exact ⟨_, q2, seenO_ie _⟩, rfl, rfl⟩
    rcases he with rfl | rfl <;> exact key

end Go.Proofs.Ytaimhgmakgbfaaa.Sx
