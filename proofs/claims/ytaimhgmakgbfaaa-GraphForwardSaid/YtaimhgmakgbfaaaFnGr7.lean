/- Package graph: Reach. No conditions: a kit of our own. -/
import Derived.Test.YtaimhgmakgbfaaaFnGr6
namespace Go.Proofs.Ytaimhgmakgbfaaa.Sx
open Go Go.RowKit
open Hp (mget mput mdel HpS)
set_option linter.unusedVariables false
set_option linter.unusedSimpArgs false

def reachO (N : List Int) (A : List Arc) (F : List Int) : List Int := setL (Gr.rnds N A N.length (N.filter fun n => decide (n ∈ F)))
theorem reach_eq {N : List Int} {A : List Arc} {F out : List Int} (hN : N.Pairwise (· < ·)) (h : Gr.RInv N A F out []) : sorted out = reachO N A F := by
  have hnd : N.Nodup := hN.imp fun h => by omega
  refine rise_ext ?_ (rise_setL _) fun x => ?_
  · have h1 := sorted_le out
    have h2 : (sorted out).Nodup := by
      have hp : (sorted out).Perm out := List.mergeSort_perm _ _
      exact hp.nodup_iff.2 h.nd
    rw [List.Nodup] at h2
    exact List.Pairwise.imp₂ (R := (· ≤ ·)) (S := (· ≠ ·)) (fun a b h1 h2 => by omega) h1 h2
  · rw [mem_sorted, Gr.rinv_end h]; unfold reachO; rw [mem_setL, Gr.rnds_mem hnd]
theorem bs_len {i : Nat} : ∀ {rs rs' : List (List AV)}, rs.length = rs'.length → bs i rs = bs i rs'
  | [], [], _ => rfl
  | [], _ :: _, h => by simp at h
  | _ :: _, [], h => by simp at h
  | r :: rs, r' :: rs', h => by simp at h; simp [h]
theorem sortB_pre {H : List AObj} {id : Nat} {l s : List Int} (h : H[id]? = some (bob 1 (l.map Cel.c))) (hs : s.length = l.length) (hl : l.length ≤ 1073741824) : cSortB.pre [bs id (s.map Cel.c)] H := by
  cases s with
  | nil => exact trivial
  | cons x s =>
    cases l with
    | nil => simp at hs
    | cons y l => exact ⟨rfl, y :: l, by simpa using hs, h, hl⟩
theorem sortB_hp {H : List AObj} {id : Nat} {l s : List Int} (h : H[id]? = some (bob 1 (l.map Cel.c))) (hs : s.length = l.length) : cSortB.hp [bs id (s.map Cel.c)] H = H.set id (bob 1 ((sorted l).map Cel.c)) := by
  cases s with
  | nil =>
    cases l with
    | nil =>
      have : sorted [] = [] := by simp [sorted]
      rw [this]
      exact (set_same h).symm
    | cons y l => simp at hs
  | cons x s =>
    cases l with
    | nil => simp at hs
    | cons y l =>
      have hr : rowsOf H id = (y :: l).map Cel.c := by simp only [rowsOf, h, rowsO_bob]
      have hu : ((y :: l).map Cel.c).map (Cel.u (α := Int) []) = y :: l := by rw [List.map_map]; exact map_self fun x _ => Cel.u_c [] x
      show H.set id (.rows 1 ((sorted ((rowsOf H id).map (Cel.u []))).map Cel.c)) = _
      rw [hr, hu, bob_ne]
      intro e
      have := congrArg List.length e
      simp [sorted] at this
/-- What waits: of one's own, or none. -/
def wvA (z : Nat) (pre wait : List Int) : AV := match z with
  | 0 => .view []
  | _ + 1 => .sl 3 pre.length wait.length
def wvO (z : Nat) (rs : List (List AV)) : AObj := match z with
  | 0 => .dead
  | _ + 1 => .rows 1 rs
@[simp] theorem wvA_zero (pre wait : List Int) : wvA 0 pre wait = .view [] := rfl
@[simp] theorem wvA_succ (z : Nat) (pre wait : List Int) : wvA (z + 1) pre wait = .sl 3 pre.length wait.length := rfl
@[simp] theorem wvO_zero (rs : List (List AV)) : wvO 0 rs = .dead := rfl
@[simp] theorem wvO_succ (z : Nat) (rs : List (List AV)) : wvO (z + 1) rs = .rows 1 rs := rfl
def muR (N : List Int) (A : List Arc) (out wait : List Int) : Nat := (N.length - out.length) * (A.length + 1) + wait.length
theorem det_gReach (ids : List Int) (A : List Arc) (F : List Int) (hi : ids.length ≤ 1073741823) (hA : A.length ≤ 1073741823) (hF : F.length ≤ 1073741823) (hM : muR (setL ids) A [] F ≤ 1073741823) : Det Try.prog 25 [en ids, en A, en F] [] (en (reachO (setL ids) A F)) [] := by
  have hc := comp_sorted_setL ids
  have hN := rise_setL ids
  have hl := setL_len ids
  have hi' : ids.length ≤ 1073741824 := by omega
  have hF' : F.length ≤ 1073741824 := by omega
  have hl' : (setL ids).length ≤ 1073741824 := by omega
  refine det_finF mixed0 (knows_cons known_Of (knows_cons known_CloneO (knows_cons known_SortB (knows_cons known_Has (knows_cons known_Contains knows_nil))))) ok_graph_Reach 2 (by simp) ?_
  simp [ic_graph_Reach, rs_graph_Reach]
  generalize setL ids = N at *
  refine BackC.genR (fun b : Nat × List Int × List Int × List Int => ⟨[(7, .ptr 0 0 0), (8, bs 4 (b.2.1.map Cel.c)), (9, wvA b.1 b.2.2.1 b.2.2.2)],
    [.rows 3 [[.view (N.map Cel.c), .map 1, .map 2]], vto (Gr.ofTo N A), .imap ((Gr.ofFr N A).map ie), wvO b.1 ((b.2.2.1 ++ b.2.2.2).map Cel.c), bob 1 (b.2.1.map Cel.c)]⟩)
    (fun b => (b.1 = 0 → b.2.2.2 = []) ∧ Gr.RInv N A F b.2.1 b.2.2.2 ∧ muR N A b.2.1 b.2.2.2 ≤ muR N A [] F) (fun b => muR N A b.2.1 b.2.2.2) ?_ ?_
  · simp [hi', hA, hc, cCloneO, hF']
    cases F with
    | nil => exact ⟨0, [], [], [], ⟨[0, 1, 2, 3, 4], by simp [atR, gOk, cvw] <;> decide⟩, fun _ => rfl, Gr.rinv_begin N A [], Nat.le_refl _⟩
    | cons x F => exact ⟨1, [], [], x :: F, ⟨[0, 1, 2, 3, 4], by simp [atR, gOk, cvw] <;> decide⟩, by simp, Gr.rinv_begin N A (x :: F), Nat.le_refl _⟩
  · rintro ⟨z, out, pre, wait⟩ ⟨h1, h2, h3⟩
    simp only at h1 h2 h3
    have hol := Gr.rinv_len h2
    have hol' : out.length ≤ 1073741823 := by omega
    cases wait with
    | nil =>
      have hr := reach_eq hN h2
      have hsl : (sorted out).length = out.length := by simp [sorted]
      have hb : bs 4 (out.map Cel.c) = bs 4 ((sorted out).map Cel.c) := bs_len (by simp [hsl])
      have e1 : ∀ a b c d, cSortB.pre [bs 4 ((sorted out).map Cel.c)] [a, b, c, d, bob 1 (out.map Cel.c)] := fun a b c d => sortB_pre rfl hsl (by omega)
      have e2 : ∀ a b c d, cSortB.hp [bs 4 ((sorted out).map Cel.c)] [a, b, c, d, bob 1 (out.map Cel.c)] = [a, b, c, d, bob 1 ((sorted out).map Cel.c)] := fun a b c d => sortB_hp rfl hsl
      simp only [hr] at hb e1 e2
      cases z with
      | zero => simp [hb, e1, e2]
      | succ z => simp [hb, e1, e2]
    | cons n w =>
      cases z with
      | zero => exact absurd (h1 rfl) (by simp)
      | succ z =>
        have hn : ∀ d, nth (pre.map (Cel.c (α := Int)) ++ [.int .i64 n] :: w.map Cel.c) pre.length d = [.int .i64 n] := fun d => by simp [nth]
        have hw0 : ¬ (w.length : Int) + 1 = 0 := by omega
        have hdr : (pre.map (Cel.c (α := Int)) ++ [.int .i64 n] :: w.map Cel.c).drop (pre.length + 1) = w.map Cel.c := by
          rw [List.drop_append]; simp
        have hto := Gr.ofTo_get N A n
        have hwl : w.length ≤ 1073741823 := by
          have : muR N A out (n :: w) ≤ 1073741823 := by omega
          simp [muR] at this; omega
        by_cases hv : n ∈ N ∧ n ∉ out
        · obtain ⟨v1, v2⟩ := hv
          have ht := Gr.rinv_take h2 v1 v2
          have hmu := Gr.rinv_mu h2 v1 v2
          change muR N A (out ++ [n]) (w ++ Gr.tosL N A n) < muR N A out (n :: w) at hmu
          have hwt : w.length + (Gr.tosL N A n).length ≤ 1073741823 := by
            have : muR N A (out ++ [n]) (w ++ Gr.tosL N A n) ≤ 1073741823 := by omega
            simp only [muR, List.length_append] at this; omega
          cases hg : mget (Gr.ofTo N A) n with
          | none =>
            have hL : Gr.tosL N A n = [] := by rw [← hto]; simp [Gr.toGet, hg]
            rw [hL, List.append_nil] at ht hmu
            simp [hn, hw0, hdr, webP, webN, v1, v2, hN, hl', cContains, hg]
            refine ⟨by omega, by omega, by omega, ⟨by omega, by omega⟩, 1, out ++ [n], [], w, ⟨[0, 1, 2, 6, 5], by simp [atR, gOk, cvw] <;> decide⟩, ⟨by simp, ht, by omega⟩, hmu⟩
          | some L =>
            have hL : Gr.tosL N A n = L := by rw [← hto]; simp [Gr.toGet, hg]
            rw [hL] at ht hmu hwt
            simp [hn, hw0, hdr, webP, webN, v1, v2, hN, hl', cContains, hg]
            refine ⟨by omega, by omega, by omega, ⟨by omega, by omega⟩, 1, out ++ [n], [], w ++ L, ⟨[0, 1, 2, 6, 5], by simp [atR, gOk, cvw] <;> decide⟩, ⟨by simp, ht, by omega⟩, hmu⟩
        · have hskip := Gr.rinv_skip h2 (by
            by_cases h : n ∈ N
            · exact .inr (Decidable.not_not.1 fun h' => hv ⟨h, h'⟩)
            · exact .inl h)
          by_cases v1 : n ∈ N
          · have v2 : n ∈ out := Decidable.not_not.1 fun h' => hv ⟨v1, h'⟩
            simp [hn, hw0, hdr, webP, webN, v1, v2, hN, hl', cContains]
            have hms : muR N A out w < muR N A out (n :: w) := by simp [muR]
            refine ⟨by omega, by omega, 1, out, pre ++ [n], w, ⟨[0, 1, 2, 3, 4], by simp [atR, gOk, cvw] <;> decide⟩, ⟨by simp, hskip, by omega⟩, hms⟩
          · simp [hn, hw0, hdr, webP, webN, v1, hN, hl', cContains]
            have hms : muR N A out w < muR N A out (n :: w) := by simp [muR]
            refine ⟨by omega, 1, out, pre ++ [n], w, ⟨[0, 1, 2, 3, 4], by simp [atR, gOk, cvw] <;> decide⟩, ⟨by simp, hskip, by omega⟩, hms⟩
end Go.Proofs.Ytaimhgmakgbfaaa.Sx
