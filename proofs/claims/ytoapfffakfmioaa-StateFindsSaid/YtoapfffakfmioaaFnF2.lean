/- The law of what is found in a state: its function returns true. No conditions: a kit of our own. -/
import Derived.Test.YtoapfffakfmioaaFnF1
import Derived.Test.YtoapfffakfmioaaIrLSF
namespace Go.Proofs.Ytoapfffakfmioaa.Sx
open Go Go.RowKit
set_option linter.unusedVariables false
set_option linter.unusedSimpArgs false

theorem atK_mem {α : Type} (z : α) (l : List α) (k : Int) : atK z l k = z ∨ atK z l k ∈ l := by
  unfold atK
  split
  · exact .inl rfl
  · by_cases h : k.toNat < l.length
    · right; rw [nth_get h]; exact List.getElem_mem h
    · left; simp [nth, List.getD_eq_getElem?_getD, List.getElem?_eq_none (by omega : l.length ≤ k.toNat)]
set_option maxHeartbeats 4000000 in
set_option maxRecDepth 40000 in
theorem det_StateFinds (s : Stt) (ws : Rd.wf s) (id : Int) (wi : Rd.wf id) : Det Try.prog 7 [en s, en id] [] (.bool true) [] := by
  refine det_finF mixed0 (knows_cons known_Alive30 (knows_cons known_r30_Few (knows_cons known_state_Task (knows_cons known_state_Worker (knows_cons known_state_Unit (knows_cons known_state_Lease (knows_cons known_r30_Task (knows_cons known_r30_Hand (knows_cons known_r30_Lease (knows_cons known_r30_SameTask (knows_cons known_r26_Same (knows_cons known_state_Many (knows_cons known_r30_Many knows_nil))))))))))))) ok_l30_StateFinds 1 (by simp) ?_
  simp at ws
  have hT : okTs s.Tasks → okT (atK Tsk.zero s.Tasks (fidx (fun x => decide (x.Sp.ID = id)) s.Tasks 0)) := fun h => by
    rcases atK_mem Tsk.zero s.Tasks (fidx (fun x => decide (x.Sp.ID = id)) s.Tasks 0) with e | e
    · rw [e]; exact ⟨Nat.zero_le _, Nat.zero_le _⟩
    · exact h _ e
  have hL : okLs s.Leases → okL (atK Lse.zero s.Leases (fidx (fun x => decide (x.Token = id)) s.Leases 0)) := fun h => by
    rcases atK_mem Lse.zero s.Leases (fidx (fun x => decide (x.Token = id)) s.Leases 0) with e | e
    · rw [e]; exact Nat.zero_le _
    · exact h _ e
  by_cases hf : fewS s = true
  · have ho := few_ok hf
    have h1 := up ho.t
    have h2 := up ho.c
    have h3 := up ho.u
    have h4 := up ho.l
    have h5 := up ho.k
    have hT := hT ho.ts
    have hL := hL ho.ls
    simp [ic_l30_StateFinds, rs_l30_StateFinds, cr30_Few, h1, h2, h3, h4, h5, hf, cstate_Task, cstate_Worker, cstate_Unit, cstate_Lease, cr30_Hand, fnd, cSameTask, cSameLse, cMany, cAlive30, vcLoose, heapsOf]
    exact ⟨hT, hL⟩
  · simp at hf
    simp [ic_l30_StateFinds, rs_l30_StateFinds, cr30_Few, hf, cAlive30]
    exact ⟨by omega, by omega, by omega, by omega, by omega⟩
end Go.Proofs.Ytoapfffakfmioaa.Sx
