/- The law GraphForward. No conditions: a kit of our own. -/
import Derived.Test.YtnjpfoblmomnlaaFnGr10
namespace Go.Proofs.Ytnjpfoblmomnlaa.Sx
open Go Go.RowKit
open Hp (mget mput mdel HpS)
set_option linter.unusedVariables false
set_option linter.unusedSimpArgs false

/-! ### where a number stands -/
/-! ### what is told, one by one -/
theorem mem_left {N : List Int} {A : List Arc} {n : Int} : n ∈ leftO N A ↔ n ∈ N ∧ n ∉ toldO N A := by simp [leftO]
theorem told_left {N : List Int} (A : List Arc) (hN : N.Pairwise (· < ·)) : (toldO N A).length + (leftO N A).length = N.length := by
  have hnd : N.Nodup := hN.imp fun h => by omega
  have h1 : (leftO N A).Nodup := hnd.sublist List.filter_sublist
  have h2 : (toldO N A ++ leftO N A).Nodup := by
    rw [List.nodup_append]
    exact ⟨told_nd A hN, h1, fun a ha b hb e => (mem_left.1 hb).2 (e ▸ ha)⟩
  have h3 := Gr.nodup_len h2 (N := N) fun x hx => by
    rcases List.mem_append.1 hx with h | h
    · exact told_sub A hN x h
    · exact (mem_left.1 h).1
  have h4 := Gr.nodup_len hnd (N := toldO N A ++ leftO N A) fun x hx => by
    by_cases h : x ∈ toldO N A
    · exact List.mem_append_left _ h
    · exact List.mem_append_right _ (mem_left.2 ⟨hx, h⟩)
  simp at h3 h4; omega
/-! ### the law -/
end Go.Proofs.Ytnjpfoblmomnlaa.Sx
