/- The lock (package lock): its memory, and what its functions do to it. No conditions: a kit of our own. -/
import Derived.Test.YtphkdomiehboaaaFifo5
import Derived.Test.YtphkdomiehboaaaIr19
namespace Go.Proofs.Ytphkdomiehboaaa.Sx
open Go Go.RowKit
set_option linter.unusedVariables false
set_option linter.unusedSimpArgs false

def lrow (id holder : Int) : List AV := [.ptr 1 0 0, .int .i64 id, .int .i64 holder]
/-- A heap that begins with a queue and a lock of it. -/
def HL (q : Q) (id holder : Int) (rest : List AObj) : List AObj := HQ q (.rows 3 [lrow id holder] :: rest)
theorem det_LockNew (id : Int) : Det Try.prog 27 [.int .i64 id] [] (.ptr 2 0 0) (HL (newQ 64) id 0 []) := by
  refine det_fin0 mixed (knows_cons known_New knows_nil) ok_lock_New (by simp) ?_
  simp [ic_lock_New, rs_lock_New, cNew, HL, lrow]
structure L where
  q : Q
  id : Int
  holder : Int
def HLk (l : L) (rest : List AObj) : List AObj := HL l.q l.id l.holder rest
/-- Ask: what it says, and the lock behind it. -/
def L.ask (l : L) (token : Int) : Int × L := if token < 1 then (1, l) else if token = l.holder then (6, l) else ((l.q.put token).1, { l with q := (l.q.put token).2 })
theorem det_Ask {l : L} (h : l.q.ok) (token : Int) (rest : List AObj) : Det Try.prog 28 [.ptr 2 0 0, .int .i64 token] (HLk l rest) (.int .i64 (l.ask token).1) (HLk (l.ask token).2 rest) := by
  refine det_fin0 mixed (knows_cons known_Put' knows_nil) ok_lock_Lock_Ask (by simp) ?_
  have hr := isQ_HQ h
  have hu := unQ_HQ' h
  by_cases h1 : token < 1
  · simp [ic_lock_Lock_Ask, rs_lock_Lock_Ask, HLk, HL, lrow, cPut', hr, hu, h, L.ask, h1]
  · by_cases h2 : token = l.holder
    · have h1' : ¬ l.holder < 1 := by omega
      simp [ic_lock_Lock_Ask, rs_lock_Lock_Ask, HLk, HL, lrow, cPut', hr, hu, h, L.ask, h1', h2]
    · simp [ic_lock_Lock_Ask, rs_lock_Lock_Ask, HLk, HL, lrow, cPut', hr, hu, h, L.ask, h1, h2]
def L.grant (l : L) : AV × L := if 0 < l.holder then (.tup [.int .i64 0, .bool false], l) else (l.q.take.1, { l with q := l.q.take.2, holder := match l.q.all with | [] => 0 | y :: _ => y })
theorem det_Grant {l : L} (h : l.q.ok) (rest : List AObj) : Det Try.prog 30 [.ptr 2 0 0] (HLk l rest) l.grant.1 (HLk l.grant.2 rest) := by
  refine det_fin0 mixed (knows_cons known_Take' knows_nil) ok_lock_Lock_Grant (by simp) ?_
  have hr := isQ_HQ h
  have hu := unQ_HQ' h
  obtain ⟨_, _, v1, a1⟩ := take_law h
  have hf := first_law h
  by_cases h1 : 0 < l.holder
  · simp [ic_lock_Lock_Grant, rs_lock_Lock_Grant, HLk, HL, lrow, cTake', hr, hu, h, L.grant, h1]
  · rcases hall : l.q.all with _ | ⟨y, ys⟩
    · rw [hall] at hf
      rw [hf] at v1
      simp [ic_lock_Lock_Grant, rs_lock_Lock_Grant, HLk, HL, lrow, cTake', hr, hu, h, L.grant, h1, v1, hall]
    · rw [hall] at hf
      rw [hf] at v1
      simp [ic_lock_Lock_Grant, rs_lock_Lock_Grant, HLk, HL, lrow, cTake', hr, hu, h, L.grant, h1, v1, hall]
def L.leave (l : L) (token : Int) : Int × L := if token < 1 then (0, l) else if token = l.holder then (2, { l with holder := 0 }) else if (l.q.drop token).1 then (1, { l with q := (l.q.drop token).2 }) else (0, { l with q := (l.q.drop token).2 })
theorem det_Leave {l : L} (h : l.q.ok) (token : Int) (rest : List AObj) : Det Try.prog 32 [.ptr 2 0 0, .int .i64 token] (HLk l rest) (.int .i64 (l.leave token).1) (HLk (l.leave token).2 rest) := by
  refine det_fin0 mixed (knows_cons known_Drop' knows_nil) ok_lock_Lock_Leave (by simp) ?_
  have hr := isQ_HQ h
  have hu := unQ_HQ' h
  by_cases h1 : token < 1
  · simp [ic_lock_Lock_Leave, rs_lock_Lock_Leave, HLk, HL, lrow, cDrop', hr, hu, h, L.leave, h1]
  · by_cases h2 : token = l.holder
    · have h1' : ¬ l.holder < 1 := by omega
      simp [ic_lock_Lock_Leave, rs_lock_Lock_Leave, HLk, HL, lrow, cDrop', hr, hu, h, L.leave, h1', h2]
    · cases h3 : (l.q.drop token).1
      · simp [ic_lock_Lock_Leave, rs_lock_Lock_Leave, HLk, HL, lrow, cDrop', hr, hu, h, L.leave, h1, h2, h3]
      · simp [ic_lock_Lock_Leave, rs_lock_Lock_Leave, HLk, HL, lrow, cDrop', hr, hu, h, L.leave, h1, h2, h3]
theorem det_Head {l : L} (h : l.q.ok) (rest : List AObj) : Det Try.prog 34 [.ptr 2 0 0] (HLk l rest) l.q.first (HLk l rest) := by
  refine det_fin0 mixed (knows_cons known_First knows_nil) ok_lock_Lock_Head (by simp) ?_
  have hr := isQ_HQ h
  have hu := unQ_HQ' h
  have hf := first_law h
  rcases hall : l.q.all with _ | ⟨y, ys⟩
  · rw [hall] at hf
    simp [ic_lock_Lock_Head, rs_lock_Lock_Head, HLk, HL, lrow, cFirst, pureH, hr, hu, h, hf]
  · rw [hall] at hf
    simp [ic_lock_Lock_Head, rs_lock_Lock_Head, HLk, HL, lrow, cFirst, pureH, hr, hu, h, hf]
end Go.Proofs.Ytphkdomiehboaaa.Sx
