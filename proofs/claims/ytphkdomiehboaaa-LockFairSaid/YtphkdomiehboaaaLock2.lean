/- The lock's View, and the reference functions of layer 19. No conditions: a kit of our own. -/
import Derived.Test.YtphkdomiehboaaaLock1
import Derived.Test.YtphkdomiehboaaaRef1
namespace Go.Proofs.Ytphkdomiehboaaa.Sx
open Go Go.RowKit
set_option linter.unusedVariables false
set_option linter.unusedSimpArgs false

@[simp] theorem closed_view_nil : Closed (.view []) := closed_vI []
def vL (id holder : Int) (wait : List Int) : AV := .agg [.int .i64 id, .int .i64 holder, .view (wait.map rI)]
theorem closed_vL (id holder : Int) (wait : List Int) : Closed (vL id holder wait) := .agg rfl fun i a b h1 h2 => by
  rw [h1] at h2; cases h2
  have := List.mem_of_getElem? h1
  simp at this
  rcases this with rfl | rfl | rfl
  · exact .int _ _
  · exact .int _ _
  · exact closed_vI wait
theorem det_r19_Same (i h : Int) (w : List Int) (j k : Int) (u : List Int) (hw : w.length ≤ 140737488355328) : Det Try.prog 35 [vL i h w, vL j k u] [] (.bool (decide (i = j) && decide (h = k) && decide (w = u))) [] := by
  refine det_finF mixed (knows_cons known_Ints knows_nil) ok_r19_Same 1 (by simp) ?_
  by_cases h1 : i = j
  · by_cases h2 : h = k
    · simp [ic_r19_Same, rs_r19_Same, vL, cInts, pureC, h1, h2, hw]
    · simp [ic_r19_Same, rs_r19_Same, vL, cInts, pureC, h1, h2, hw]
  · simp [ic_r19_Same, rs_r19_Same, vL, cInts, pureC, h1, hw]
theorem low_HLk (l : L) : ∀ o ∈ HLk l [], LowO 3 o := by
  intro o ho
  simp only [HLk, HL, HQ, List.mem_cons, List.not_mem_nil, or_false] at ho
  have key : ∀ o, LowO 2 o → LowO 3 o := fun o h => SeenO.mono h fun i j ⟨e, h⟩ => ⟨e, by omega⟩
  rcases ho with rfl | rfl | rfl
  · exact key _ (low_HQ l.q _ (by simp [HQ]))
  · exact key _ (low_HQ l.q _ (by simp [HQ]))
  · refine .rows rfl (fun i r r' h1 h2 => by rw [h1] at h2; cases h2; rfl) fun i r r' j a b h1 h2 h3 h4 => ?_
    rw [h1] at h2; cases h2
    rw [h3] at h4; cases h4
    have hr : r = lrow l.id l.holder := by
      have := List.mem_of_getElem? h1
      simpa using this
    subst hr
    have ha := List.mem_of_getElem? h3
    simp only [lrow, List.mem_cons, List.not_mem_nil, or_false] at ha
    rcases ha with rfl | rfl | rfl
    · exact .ptr ⟨rfl, by omega⟩
    · exact .int _ _
    · exact .int _ _
theorem det_View {l : L} (h : l.q.ok) : Det Try.prog 36 [.ptr 2 0 0] (HLk l []) (vL l.id l.holder l.q.all) (HLk l []) := by
  refine det_finK mixed (knows_cons known_List knows_nil) ok_lock_Lock_View 1 (by simp) (low_HLk l) rfl ?_
  have hr := isQ_HQ h
  have hu := unQ_HQ' h
  simp [ic_lock_Lock_View, rs_lock_Lock_View, HLk, HL, lrow, cList, pureH, hr, hu, h, vL]
  exact ⟨_, rfl⟩
theorem det_View' {l : L} (h : l.q.ok) (rest : List AObj) : Det Try.prog 36 [.ptr 2 0 0] (HLk l rest) (vL l.id l.holder l.q.all) (HLk l rest) :=
  (det_View h).behind (H0 := HLk l []) rfl (fun a ha => by simp at ha; subst ha; exact .ptr ⟨rfl, by show 2 < 3; omega⟩) (low_HLk l) (low_HLk l) ((closed_vL _ _ _).seen _ _) rest
theorem det_r19_Ask (i h : Int) (w : List Int) (t : Int) (hw : w.length ≤ 1000000) : Det Try.prog 29 [vL i h w, .int .i64 t] []
    (if t < 1 then .tup [vL i h w, .int .i64 1] else if h = t ∨ t ∈ w then .tup [vL i h w, .int .i64 6] else if 64 ≤ w.length then .tup [vL i h w, .int .i64 9] else .tup [vL i h (w ++ [t]), .int .i64 0]) [] := by
  refine det_finF mixed (knows_cons known_In knows_nil) ok_r19_Ask 3 (by simp) ?_
  by_cases h1 : t < 1
  · simp [ic_r19_Ask, rs_r19_Ask, vL, cIn, pureC, h1]
  · by_cases h2 : h = t
    · simp [ic_r19_Ask, rs_r19_Ask, vL, cIn, pureC, h1, h2]
    · by_cases h3 : t ∈ w
      · simp [ic_r19_Ask, rs_r19_Ask, vL, cIn, pureC, h1, h2, h3]; omega
      · by_cases h4 : 64 ≤ w.length
        · simp [ic_r19_Ask, rs_r19_Ask, vL, cIn, pureC, h1, h2, h3, h4]; omega
        · simp [ic_r19_Ask, rs_r19_Ask, vL, cIn, pureC, h1, h2, h3, h4]
          refine ⟨by omega, by omega, fun _ => ⟨by omega, by omega, fun row hrow a ha => ?_, rfl⟩⟩
          rcases hrow with ⟨y, _, rfl⟩ | rfl
          · simp at ha; subst ha; simp
          · simp at ha; subst ha; simp
theorem det_r19_Grant (i h : Int) (w : List Int) (hw : w.length ≤ 1000000) : Det Try.prog 31 [vL i h w] []
    (if h ≠ 0 then .tup [vL i h w, .int .i64 0, .bool false] else match w with | [] => .tup [vL i h [], .int .i64 0, .bool false] | y :: ys => .tup [vL i y ys, .int .i64 y, .bool true]) [] := by
  refine det_finF mixed knows_nil ok_r19_Grant 3 (by simp) ?_
  by_cases h1 : h = 0
  · rcases w with _ | ⟨y, ys⟩
    · simp [ic_r19_Grant, rs_r19_Grant, vL, h1]
    · simp [ic_r19_Grant, rs_r19_Grant, vL, h1, vcLoose, heapsOf]
      try omega
  · simp [ic_r19_Grant, rs_r19_Grant, vL, h1]
theorem det_r19_Leave (i h : Int) (w : List Int) (t : Int) (hw : w.length ≤ 1000000) : Det Try.prog 33 [vL i h w, .int .i64 t] []
    (if 0 < t ∧ h = t then .tup [vL i 0 w, .int .i64 2] else if t ∈ w then .tup [vL i h (w.filter (· ≠ t)), .int .i64 1] else .tup [vL i h w, .int .i64 0]) [] := by
  refine det_finF mixed (knows_cons known_R18Drop knows_nil) ok_r19_Leave 3 (by simp) ?_
  by_cases h1 : 0 < t
  · by_cases h2 : h = t
    · simp [ic_r19_Leave, rs_r19_Leave, vL, cR18Drop, pureC, h1, h2]
    · by_cases h3 : t ∈ w
      · simp [ic_r19_Leave, rs_r19_Leave, vL, cR18Drop, pureC, h1, h2, h3]; exact ⟨hw, List.filter_congr fun a _ => by by_cases e : a = t <;> simp [e]⟩
      · simp [ic_r19_Leave, rs_r19_Leave, vL, cR18Drop, pureC, h1, h2, h3]; omega
  · by_cases h3 : t ∈ w
    · simp [ic_r19_Leave, rs_r19_Leave, vL, cR18Drop, pureC, h1, h3]; exact ⟨hw, List.filter_congr fun a _ => by by_cases e : a = t <;> simp [e]⟩
    · simp [ic_r19_Leave, rs_r19_Leave, vL, cR18Drop, pureC, h1, h3]; omega
end Go.Proofs.Ytphkdomiehboaaa.Sx
