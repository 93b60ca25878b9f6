/- Contracts of the lock's functions, for callers. No conditions: a kit of our own. -/
import Derived.Test.YtphkdomiehboaaaLock2
namespace Go.Proofs.Ytphkdomiehboaaa.Sx
open Go Go.RowKit
set_option linter.unusedVariables false
set_option linter.unusedSimpArgs false

def isLk (H : List AObj) : Prop := ∃ l rest, H = HLk l rest ∧ l.q.ok
def unLk (H : List AObj) : L := ⟨unQ H, numOf (nth (nth (rowsOf H 2) 0 []) 1 .any), numOf (nth (nth (rowsOf H 2) 0 []) 2 .any)⟩
theorem isLk_HLk {l : L} (h : l.q.ok) (rest : List AObj) : isLk (HLk l rest) := ⟨l, rest, rfl, h⟩
theorem unLk_HLk {l : L} (h : l.q.ok) (rest : List AObj) : unLk (HLk l rest) = l := by
  have h2 : rowsOf (HLk l rest) 2 = [lrow l.id l.holder] := rfl
  simp only [unLk, h2, nth_zero, lrow, nth_succ, numOf]
  rw [show unQ (HLk l rest) = l.q from unQ_HQ' h _]
@[simp] theorem HLk_drop (l : L) (rest : List AObj) : (HLk l rest).drop 3 = rest := rfl
@[simp] theorem HLk_get (l : L) (rest : List AObj) (n : Nat) : (HLk l rest)[n + 3]? = rest[n]? := rfl
@[simp] theorem HLk_len (l : L) (rest : List AObj) : (HLk l rest).length = rest.length + 3 := rfl
@[simp] theorem HLk_app (l : L) (rest t : List AObj) : HLk l rest ++ t = HLk l (rest ++ t) := rfl
@[simp] theorem HLk_set (l : L) (rest : List AObj) (n : Nat) (o : AObj) : (HLk l rest).set (n + 3) o = HLk l (rest.set n o) := rfl
@[simp] theorem HLk_getE (l : L) (rest : List AObj) (n : Nat) (h : n + 3 < (HLk l rest).length) : (HLk l rest)[n + 3] = rest[n]'(by simpa using h) := rfl

def cAsk : Ctr := ⟨fun a H => isLk H ∧ ∃ t, a = [.ptr 2 0 0, .int .i64 t], fun a H => .int .i64 ((unLk H).ask (numOf (nth a 1 .any))).1, fun a H => HLk ((unLk H).ask (numOf (nth a 1 .any))).2 (H.drop 3)⟩
theorem known_Ask : Known Try.prog 28 cAsk := by
  rintro args H ⟨⟨l, rest, rfl, hok⟩, t, rfl⟩
  simp only [cAsk, unLk_HLk hok]
  exact det_Ask hok t rest
def cGrant : Ctr := ⟨fun a H => isLk H ∧ a = [.ptr 2 0 0], fun a H => (unLk H).grant.1, fun a H => HLk (unLk H).grant.2 (H.drop 3)⟩
theorem known_Grant : Known Try.prog 30 cGrant := by
  rintro args H ⟨⟨l, rest, rfl, hok⟩, rfl⟩
  simp only [cGrant, unLk_HLk hok]
  exact det_Grant hok rest
def cLeave : Ctr := ⟨fun a H => isLk H ∧ ∃ t, a = [.ptr 2 0 0, .int .i64 t], fun a H => .int .i64 ((unLk H).leave (numOf (nth a 1 .any))).1, fun a H => HLk ((unLk H).leave (numOf (nth a 1 .any))).2 (H.drop 3)⟩
theorem known_Leave : Known Try.prog 32 cLeave := by
  rintro args H ⟨⟨l, rest, rfl, hok⟩, t, rfl⟩
  simp only [cLeave, unLk_HLk hok]
  exact det_Leave hok t rest
def cHead : Ctr := pureH (fun a H => isLk H ∧ a = [.ptr 2 0 0]) (fun a H => (unLk H).q.first)
theorem known_Head : Known Try.prog 34 cHead := by
  rintro args H ⟨⟨l, rest, rfl, hok⟩, rfl⟩
  simp only [cHead, pureH, unLk_HLk hok]
  exact det_Head hok rest
def cView : Ctr := pureH (fun a H => isLk H ∧ a = [.ptr 2 0 0]) (fun a H => vL (unLk H).id (unLk H).holder (unLk H).q.all)
theorem known_View : Known Try.prog 36 cView := by
  rintro args H ⟨⟨l, rest, rfl, hok⟩, rfl⟩
  simp only [cView, pureH, unLk_HLk hok]
  exact det_View' hok rest
end Go.Proofs.Ytphkdomiehboaaa.Sx
