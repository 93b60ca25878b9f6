/- slices.Compact at []int on a slice of one's own; sets of lists: package idset's set, Of, Has, and the document's Set. No conditions: a kit of our own. -/
import Derived.Test.YtnjpfoblmomnlaaIds1
import Derived.Test.YtnjpfoblmomnlaaFnB1
import Derived.Test.YtnjpfoblmomnlaaIrI
namespace Go.Proofs.Ytnjpfoblmomnlaa.Sx
open Go Go.RowKit
set_option linter.unusedVariables false
set_option linter.unusedSimpArgs false
set_option maxHeartbeats 8000000

theorem seenO_cl {H : List AObj} {R : Nat → Nat → Prop} {sz : Nat} {rs : List (List AV)} (h : allR Closed rs) : SeenO H R (.rows sz rs) (.rows sz rs) := .rows rfl (fun i r r' h1 h2 => by rw [h1] at h2; cases h2; rfl) fun i r r' j a b h1 h2 h3 h4 => by
  rw [h1] at h2; cases h2
  rw [h3] at h4; cases h4
  exact Closed.seen (h r (List.mem_of_getElem? h1) a (List.mem_of_getElem? h3)) _ _
/-- A function over a slice of one's own, all of it. -/
theorem Det.one {P : Program} {f : FuncId} {sz sz' n n' id : Nat} {rs rs' : List (List AV)} {H : List AObj} (hd : Det P f [.sl 0 0 n] [.rows sz rs] (.sl 0 0 n') [.rows sz' rs']) (ho : H[id]? = some (.rows sz rs)) (hc : allR Closed rs) (hc' : allR Closed rs') : Det P f [.sl id 0 n] H (.sl id 0 n') (H.set id (.rows sz' rs')) := by
  have hlt : id < H.length := (List.getElem?_eq_some_iff.1 ho).1
  have nm : names [id] H.length 0 = [id] := by simp [names]
  refine hd.frame (ids := [id]) (H := H) ⟨rfl, fun i j k hi hj => ?_, fun j i h => ?_, fun j i o' hj ho' _ => ?_, by simp, by simp, fun j i o' hj ho' hne' => ?_, fun i hi hn => ?_⟩ (each_cons (.sl ?_) each_nil) (.sl ?_)
  · match i, j with
    | 0, 0 => rfl
    | i + 1, _ => simp at hi
    | 0, j + 1 => simp at hj
  · match j with
    | 0 => simp at h; omega
    | j + 1 => simp at h
  · match j with
    | 0 =>
      simp at hj ho'; subst hj; subst ho'
      exact ⟨_, ho, seenO_cl hc⟩
    | j + 1 => simp at hj
  · simp only [List.length_cons, List.length_nil, Nat.sub_self, nm] at hj ⊢
    match j with
    | 0 =>
      simp at hj; subst hj
      rw [List.getElem?_set_self hlt] at ho'
      simp at ho'; subst ho'
      exact ⟨_, rfl, seenO_cl hc'⟩
    | j + 1 => simp at hj
  · have : i ≠ id := fun e => hn 0 (by simp [e])
    rw [List.getElem?_set_ne (by omega)]
  · simp [byG]
  · simp only [List.length_cons, List.length_nil, Nat.sub_self, nm]
    simp [byN]

theorem comp_step {l : List Int} {j : Nat} (h : j + 1 < l.length) : comp (l.drop j) = if nth l j 0 = nth l (j + 1) 0 then comp (l.drop (j + 1)) else nth l j 0 :: comp (l.drop (j + 1)) := by
  rw [drop_nth (0 : Int) (show j < l.length by omega), drop_nth (0 : Int) h]; rfl
theorem comp_end {l : List Int} {j : Nat} (h : j + 1 = l.length) : comp (l.drop j) = [nth l j 0] := by
  rw [drop_nth (0 : Int) (show j < l.length by omega), List.drop_of_length_le (by omega)]; rfl
theorem take_nth {l : List Int} {j : Nat} (h : j < l.length) : l.take (j + 1) = l.take j ++ [nth l j 0] := by
  rw [nth_get h]; exact (List.take_append_getElem h).symm
theorem nth_of_drop {M l : List Int} {p i : Nat} (h : M.drop p = l.drop p) (hi : p ≤ i) : nth M i 0 = nth l i 0 := by
  have e : ∀ L : List Int, nth L i 0 = ((L.drop p)[i - p]?).getD 0 := fun L => by
    rw [List.getElem?_drop, show p + (i - p) = i by omega]
    simp [nth, List.getD_eq_getElem?_getD]
  rw [e, e, h]
structure CompInv (l : List Int) (j : Nat) (a : (Nat × Nat) × List Int) : Prop where
  len : a.2.length = l.length
  ge : j + 1 ≤ a.1.1
  le : a.1.1 ≤ j + 1 + a.1.2
  lt : j + 1 + a.1.2 < l.length
  suf : a.2.drop (j + 1 + a.1.2) = l.drop (j + 1 + a.1.2)
  is : comp l = a.2.take a.1.1 ++ (comp (l.drop (j + 1 + a.1.2))).tail
theorem det_CompactOwn (l : List Int) (hl : l.length ≤ 1073741824) (h2 : 2 ≤ l.length) :
    Det Try.prog 257 [.sl 0 0 l.length] [.rows 1 (l.map Cel.c)] (.sl 0 0 (comp l).length) [.rows 1 ((comp l).map Cel.c ++ List.replicate (l.length - (comp l).length) [.int .i64 0])] := by
  refine det_fin0 mixed0 knows_nil ok_slices_Compact_int_int (by simp) ?_
  have h2' : ¬ (l.length : Int) < 2 := by omega
  simp [ic_slices_Compact_int_int, rs_slices_Compact_int_int, h2', h2]
  refine LoopC.gen (fun j : Nat => ⟨[(0, .sl 0 0 l.length), (3, .int .i64 (j + 1 : Nat))], [.rows 1 (l.map Cel.c)]⟩) (fun j => j + 1 ≤ l.length ∧ comp l = l.take j ++ comp (l.drop j)) (fun j => l.length - j) 0 (by simp) (by simp) (by simp; omega) fun j ⟨hj, hG⟩ => ?_
  by_cases h : j + 1 < l.length
  · have hs := comp_step h
    have hlt : (j : Int) + 1 < l.length := by omega
    have hjj : j < l.length := by omega
    simp [h, hlt, hjj]
    refine ⟨by omega, by omega, fun e => ?_, fun e => ?_⟩
    · rw [if_pos e.symm] at hs
      refine ⟨by omega, ?_⟩
      refine LoopC.gen (fun a : (Nat × Nat) × List Int => ⟨[(0, .sl 0 0 l.length), (3, .int .i64 a.1.1), (4, .sl 0 (j + 1) (l.length - (j + 1))), (5, .int .i64 (a.1.2 + 1 : Nat))], [.rows 1 (a.2.map Cel.c)]⟩) (CompInv l j) (fun a => l.length - a.1.2) ((j + 1, 0), l) (by simp) (by simp) ⟨rfl, Nat.le_refl _, Nat.le_refl _, by simpa using h, rfl, ?_⟩ ?_
      · simp only [Nat.add_zero]
        rw [hG, hs, take_nth hjj, ← e, drop_nth (0 : Int) h, comp_head]
        simp
      rintro ⟨⟨k, q⟩, M⟩ ⟨m1, m2, m3, m4, m5, m6⟩
      simp only at m1 m2 m3 m4 m5 m6
      have hsz : ((l.length - (j + 1) : Nat) : Int) = l.length - (j + 1) := by omega
      by_cases hq : j + 1 + (q + 1) < l.length
      · have hq1 : q + 1 < l.length - (j + 1) := by omega
        have hq2 : (q : Int) + 1 < (l.length - (j + 1) : Nat) := by omega
        have hst := comp_step (l := l) (j := j + 1 + q) (by omega)
        rw [show j + 1 + q + 1 = j + 1 + (q + 1) by omega] at hst
        have e1 := nth_of_drop (i := j + 1 + q) m5 (Nat.le_refl _)
        have e2 := nth_of_drop (i := j + 1 + (q + 1)) m5 (by omega)
        have m5' : M.drop (j + 1 + (q + 1)) = l.drop (j + 1 + (q + 1)) := by
          rw [show j + 1 + (q + 1) = j + 1 + q + 1 by omega]; have := congrArg (List.drop 1) m5; rwa [List.drop_drop, List.drop_drop] at this
        have hk : k < l.length := by omega
        have hkM : k < M.length := by omega
        simp [hq1, hq2, m1, e1, e2]
        refine ⟨by omega, by omega, by omega, by omega, by omega, fun e3 => ?_, fun e3 => ?_⟩
        · rw [if_neg fun e4 => e3 e4.symm] at hst
          refine ⟨by omega, by omega, hk, ⟨hk, by rw [nth_c_nil hkM]; simp⟩, by omega, by omega, k + 1, q + 1, M.set k (nth l (j + 1 + (q + 1)) 0), ⟨⟨by simp, by simp⟩, .inl ?_⟩, ⟨by simpa using m1, ?_, ?_, ?_, ?_, ?_⟩, by omega⟩
          · rw [nth_c_nil hkM]; simp [over]
          · simp only; omega
          · simp only; omega
          · simp only; omega
          · simp only
            rw [List.drop_set_of_lt (by omega)]
            exact m5'
          · simp only
            rw [m6, hst, List.tail_cons, List.set_eq_take_append_cons_drop, if_pos hkM, List.take_append]
            have hkt : (M.take k).length = k := by simp; omega
            rw [List.take_of_length_le (l := M.take k) (by omega), hkt, show k + 1 - k = 1 by omega, drop_nth (0 : Int) (show j + 1 + (q + 1) < l.length by omega), comp_head]
            simp
        · rw [if_pos e3.symm] at hst
          refine ⟨by omega, k, q + 1, M, ⟨⟨rfl, by simp⟩, .inl rfl⟩, ⟨m1, m2, ?_, ?_, m5', ?_⟩, by omega⟩
          · simp only; omega
          · simp only; omega
          · simp only; rw [m6, hst]
      · have hq1 : ¬ q + 1 < l.length - (j + 1) := by omega
        have hq2 : ¬ (q : Int) + 1 < (l.length - (j + 1) : Nat) := by omega
        have hst := comp_end (l := l) (j := j + 1 + q) (by omega)
        rw [hst] at m6
        simp at m6
        have hk : k < l.length := by omega
        have hkl : (comp l).length = k := by rw [m6]; simp; omega
        simp [hq1, hq2, m1]
        refine ⟨by omega, by omega, by omega, hkl.symm, ?_⟩
        rw [show k + (l.length - k) = l.length by omega, List.drop_of_length_le (l := M.map Cel.c) (by simp; omega), hkl, m6]
        simp
    · rw [if_neg fun e' => e e'.symm] at hs
      refine ⟨by omega, j + 1, by simp, ⟨by omega, ?_⟩, by omega⟩
      rw [hG, hs, take_nth hjj]
      simp
  · have e : j + 1 = l.length := by omega
    have hlt : ¬ (j : Int) + 1 < l.length := by omega
    have hce := comp_end e
    rw [hce, ← take_nth (by omega), e, List.take_length] at hG
    simp [hlt, h, hG]
/-- slices.Compact on a slice of one's own, all of it. -/
def cCompact : Ctr := ⟨fun a H => match a with
  | [.sl id r n] => r = 0 ∧ ∃ l : List Int, (n = l.length ∧ 2 ≤ l.length) ∧ H[id]? = some (.rows 1 (l.map Cel.c)) ∧ l.length ≤ 1073741824
  | _ => False, fun a H => match a with
  | [.sl id r n] => .sl id 0 (comp ((rowsOf H id).map (Cel.u []))).length
  | _ => .any, fun a H => match a with
  | [.sl id r n] => H.set id (.rows 1 ((comp ((rowsOf H id).map (Cel.u []))).map Cel.c ++ List.replicate (n - (comp ((rowsOf H id).map (Cel.u []))).length) [.int .i64 0]))
  | _ => H⟩
@[simp] theorem cCompact_pre (id r n : Nat) (H : List AObj) : cCompact.pre [.sl id r n] H = (r = 0 ∧ ∃ l : List Int, (n = l.length ∧ 2 ≤ l.length) ∧ H[id]? = some (.rows 1 (l.map Cel.c)) ∧ l.length ≤ 1073741824) := rfl
@[simp] theorem cCompact_val (id r n : Nat) (H : List AObj) : cCompact.val [.sl id r n] H = .sl id 0 (comp ((rowsOf H id).map (Cel.u []))).length := rfl
@[simp] theorem cCompact_hp (id r n : Nat) (H : List AObj) : cCompact.hp [.sl id r n] H = H.set id (.rows 1 ((comp ((rowsOf H id).map (Cel.u []))).map Cel.c ++ List.replicate (n - (comp ((rowsOf H id).map (Cel.u []))).length) [.int .i64 0])) := rfl
theorem known_Compact : Known Try.prog 257 cCompact := fun args H hp => by
  match args, hp with
  | [.sl id r n], hp =>
    obtain ⟨rfl, l, ⟨rfl, h2⟩, ho, hl⟩ := hp
    have hr : rowsOf H id = l.map Cel.c := by simp [rowsOf, ho]
    have hu : (l.map Cel.c).map (Cel.u (α := Int) []) = l := by
      rw [List.map_map]; exact map_self fun x _ => Cel.u_c [] x
    have cl : ∀ l : List Int, allR Closed (l.map Cel.c) := fun l => by
      intro row hr a ha
      obtain ⟨x, _, rfl⟩ := List.mem_map.1 hr
      exact Cel.closed x a ha
    rw [cCompact_val, cCompact_hp, hr, hu]
    refine (det_CompactOwn l hl h2).one ho (cl l) fun row hr a ha => ?_
    rcases List.mem_append.1 hr with hr | hr
    · exact cl _ row hr a ha
    · have := List.eq_of_mem_replicate hr
      subst this
      simp at ha; subst ha
      exact .int _ _

/-! ### sets -/
theorem det_CloneO (l : List Int) (hl : l.length ≤ 1073741824) : Det Try.prog 103 [en l] [] (ow 0 (l.map Cel.c)) [bob 1 (l.map Cel.c)] := by
  refine det_finO mixed0 knows_nil ok_slices_Clone_int_int (by simp) ?_
  simp [ic_slices_Clone_int_int, rs_slices_Clone_int_int, hl]
  rcases l with _ | ⟨x, l⟩
  · exact ⟨⟨[0], by simp [emp]⟩, fun _ => ⟨[0], by simp⟩⟩
  · exact ⟨⟨[1], by simp⟩, fun h => by cases h⟩
def cCloneO : Ctr := O1 (fun l : List Int => l.length ≤ 1073741824) (fun l => ow 0 (l.map Cel.c)) fun l => [bob 1 (l.map Cel.c)]
theorem known_CloneO : Known Try.prog 103 cCloneO := known_O1 (fun l h => det_CloneO l h) fun l => by simp
theorem insG_nil (x : Int) (d : Bool) : insG x d [] = if d then [] else [x] := rfl
theorem insG_cons (x o : Int) (d : Bool) (r : List Int) : insG x d (o :: r) = (if !d && decide (x ≤ o) then [x] else []) ++ ((if o = x then [] else [o]) ++ insG x (d || decide (x ≤ o)) r) := rfl
theorem insL_ne (x : Int) (l : List Int) : insL l x ≠ [] := fun e => by
  have : x ∈ insG x false l := mem_insG.2 (.inl ⟨rfl, rfl⟩)
  rw [show insG x false l = insL l x from rfl, e] at this
  cases this
attribute [local irreducible] insG insL
theorem det_r16_Set (l : List Int) (hl : l.length ≤ 536870912) : Det Try.prog 210 [en l] [] (en (setL l)) [] := by
  refine det_finF mixed0 knows_nil ok_r16_Set 2 (by simp) ?_
  have hl' : l.length ≤ 9223372036854775807 := by omega
  simp [ic_r16_Set, rs_r16_Set]
  refine LoopC.scanR (0 : Int) l (fun i (out : List Int) => ⟨[(0, .view (l.map Cel.c)), (3, bs 0 (out.map Cel.c)), (4, .int .i64 i)], [bob 1 (out.map Cel.c)]⟩) (fun i out r => setL l = r.foldl insL out ∧ out.length ≤ i) [] [0] (by simp [atR]) ⟨(fold_set l).symm, by simp⟩ (fun i a r out hi ha hd ⟨hG, ho⟩ => ?_) fun out ⟨hG, ho⟩ => ?_
  · simp [hi, ha]
    refine LoopC.scanR (0 : Int) out (fun k (b : List Int × Bool) => ⟨[(0, .view (l.map Cel.c)), (3, bs 0 (out.map Cel.c)), (4, .int .i64 i), (5, bs 1 (b.1.map Cel.c)), (6, .bool b.2), (7, .int .i64 k)], [bob 1 (out.map Cel.c), bob 1 (b.1.map Cel.c)]⟩) (fun k b r => insL out a = b.1 ++ insG a b.2 r ∧ b.1.length ≤ k + b.2.toNat) ([], false) [0, 1] (by simp [atR]) ⟨by simp [insL], by simp⟩ (fun k o q b hk hok hdk ⟨hG2, hb⟩ => ?_) fun b ⟨hG2, hb⟩ => ?_
    · obtain ⟨nx, d⟩ := b
      simp only at hG2 hb
      rw [insG_cons] at hG2
      have hne : ¬ out = [] := by intro e; subst e; simp at hk
      by_cases h1 : o = a
      · subst h1
        have h2 : o ≤ o := Int.le_refl _
        cases d
        · simp at hG2 hb
          simp [hi, ha, hk, hok, hne, h2]
          refine ⟨by omega, by omega, nx ++ [o], .inr ⟨⟨[0, 2], by simp [atR]⟩, by simp [hG2], by simp; omega⟩⟩
        · simp at hG2 hb
          simp [hi, ha, hk, hok, hne, h2]
          refine ⟨by omega, nx, .inr ⟨⟨[0, 1], by simp [atR]⟩, by simp [hG2], by omega⟩⟩
      · by_cases h2 : a ≤ o
        · cases d
          · simp [h1, h2] at hG2 hb
            simp [hi, ha, hk, hok, hne, h1, h2]
            refine ⟨by omega, by omega, by omega, nx ++ [a, o], .inr ⟨⟨[0, 3], by simp [atR]⟩, by simp [hG2], by simp; omega⟩⟩
          · simp [h1, h2] at hG2 hb
            simp [hi, ha, hk, hok, hne, h1, h2]
            refine ⟨by omega, by omega, nx ++ [o], .inr ⟨⟨[0, 2], by simp [atR]⟩, by simp [hG2], by simp; omega⟩⟩
        · simp [h1, h2] at hG2
          simp [hi, ha, hk, hok, hne, h1, h2]
          cases d <;> simp at hb hG2 ⊢
          · refine ⟨by omega, by omega, nx ++ [o], .inl ⟨⟨[0, 2], by simp [atR]⟩, by simp [hG2], by simp; omega⟩⟩
          · refine ⟨by omega, by omega, nx ++ [o], .inr ⟨⟨[0, 2], by simp [atR]⟩, by simp [hG2], by simp; omega⟩⟩
    · obtain ⟨nx, d⟩ := b
      simp only at hG2 hb
      rw [insG_nil] at hG2
      cases d
      · simp at hG2 hb
        simp [hi, ha]
        refine ⟨by omega, by omega, nx ++ [a], ⟨[2], by simp [atR]⟩, by rw [hG, List.foldl_cons, hG2], by simp; omega⟩
      · simp at hG2 hb
        have hne : ¬ nx = [] := hG2 ▸ insL_ne a out
        simp
        refine ⟨by omega, nx, ⟨[1], by simp [atR, bs_ne, bob_ne, hne]⟩, by rw [hG, List.foldl_cons, hG2], by omega⟩
  · simp [hG]
def cR16Set : Ctr := V1 (fun l : List Int => l.length ≤ 536870912) fun l => en (setL l)
theorem known_R16Set : Known Try.prog 210 cR16Set := known_V1 (fun l h => det_r16_Set l h) fun l h => closed_en _
end Go.Proofs.Ytnjpfoblmomnlaa.Sx
