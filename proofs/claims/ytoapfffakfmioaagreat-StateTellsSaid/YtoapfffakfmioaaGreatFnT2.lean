/- The shape of a state, by the document's answer. No conditions: a kit of our own. -/
import Derived.Test.YtoapfffakfmioaaGreatFnT1
import Derived.Test.YtoapfffakfmioaaGreatIrT
namespace Go.Proofs.YtoapfffakfmioaaGreat.Sx
open Go Go.RowKit
set_option linter.unusedVariables false
set_option linter.unusedSimpArgs false

theorem det_r30_in (n a b : Int) : Det Tryz.prog 120 [en n, en a, en b] [] (.bool (inR a b n)) [] := by
  refine det_finF mixed0 knows_nil ok_r30_in 1 (by simp) ?_
  simp [ic_r30_in, rs_r30_in, inR]
theorem known_r30_in : Known Tryz.prog 120 cr22_within := known_C3 (fun n a b _ => det_r30_in n a b) fun n a b => flat_bool _
theorem det_r30_all (l : List Int) (a b : Int) (hl : l.length ≤ 9223372036854775807) : Det Tryz.prog 125 [en l, en a, en b] [] (.bool (l.all (inR a b))) [] := by
  refine det_finF mixed0 (knows_cons known_r30_in knows_nil) ok_r30_all 1 (by simp) ?_
  simp [ic_r30_all, rs_r30_all]
  refine LoopC.scan (0 : Int) l (fun i : Nat => ⟨[(0, .view (l.map Cel.c)), (1, .int .i64 a), (2, .int .i64 b), (7, .int .i64 i)], []⟩) (fun r => l.all (inR a b) = r.all (inR a b)) (by simp) (by simp) rfl (fun i x r hi hx hG => ?_) fun hG => ?_
  · rw [hG]
    cases h : inR a b x
    · simp [hi, hx, cr22_within, h]
    · simp [hi, hx, cr22_within, h]; omega
  · rw [hG]; simp
def cr30_all : Ctr := C3 (fun (l : List Int) (a b : Int) => l.length ≤ 9223372036854775807) fun l a b => .bool (l.all (inR a b))
theorem known_r30_all : Known Tryz.prog 125 cr30_all := known_C3 (fun l a b h => det_r30_all l a b h) fun l a b => flat_bool _
theorem nth_map' {α β : Type} (f : α → β) {l : List α} {i : Nat} (d : α) (d' : β) (h : i < l.length) : nth (l.map f) i d' = f (nth l i d) := by
  rw [nth_get (by simpa using h), nth_get h]; simp
theorem det_r30_hands (l : List Hand) (hl : l.length ≤ 9223372036854775807) : Det Tryz.prog 118 [en l] [] (.bool (rises (l.map fun x => x.ID))) [] := by
  refine det_finF mixed0 knows_nil ok_r30_hands 1 (by simp) ?_
  simp [ic_r30_hands, rs_r30_hands]
  refine LoopC.gen (fun j : Nat => ⟨[(0, .view (l.map Cel.c)), (3, .int .i64 (j + 1 : Nat))], []⟩) (fun j => j ≤ l.length ∧ rises (l.map fun x => x.ID) = rises ((l.map fun x => x.ID).drop j)) (fun j => l.length - j) 0 (by simp) (by simp) (by simp) fun j ⟨hj, hG⟩ => ?_
  by_cases h : j + 1 < l.length
  · have hd := rises_drop (L := l.map fun x => x.ID) (j := j) (by simpa using h)
    rw [nth_map' _ Hand.zero _ (by omega : j < l.length), nth_map' _ Hand.zero _ h] at hd
    rw [hd] at hG
    have h1 : (j : Int) + 1 < l.length := by omega
    simp [h, h1, hG, vcLoose]
    and_intros <;> try omega
    · exact fun h2 => ⟨by omega, j + 1, by simp, ⟨by omega, by simp [h2]⟩, by omega⟩
  · have h1 : ¬ (j : Int) + 1 < l.length := by omega
    simp [h, h1]
    rw [hG, rises_drop_end (by simp; omega)]
def cr30_hands : Ctr := C1 (fun l : List Hand => l.length ≤ 9223372036854775807) fun l => .bool (rises (l.map fun x => x.ID))
theorem known_r30_hands : Known Tryz.prog 118 cr30_hands := known_C1 (fun l h => det_r30_hands l h) fun l => flat_bool _
theorem det_r30_big (r : Rul) (s : Stt) (h : okS s) : Det Tryz.prog 34 [en r, en s] [] (.bool (!fitS r s)) [] := by
  refine det_finF mixed0 knows_nil ok_r30_big 1 (by simp) ?_
  have ht := h.t; have hl := h.l; have hk := h.k
  simp [ic_r30_big, rs_r30_big]
  refine ⟨fun hc => ?_, fun h1 h2 h3 h4 h5 => ?_⟩
  · cases hf : fitS r s
    · rfl
    · exfalso
      simp only [fitS, Bool.and_eq_true, decide_eq_true_eq] at hf
      omega
  refine LoopC.scan Tsk.zero s.Tasks (fun i : Nat => ⟨[(2, .ptr 0 0 0), (3, .ptr 1 0 0), (5, .int .i64 i)], [.rows 8 [Cel.c r], .rows 8 [Cel.c s]]⟩) (fun l => fitS r s = (l.all p_fits_1 && s.Leases.all (p_fits_2 r) && s.Locks.all p_fits_3)) (by simp) (by simp) (by simp [fitS, h1, h2, h3, h4, h5]) (fun i a l hi ha hG => ?_) fun hG => ?_
  · rw [hG]
    by_cases hp : a.Burnt.length ≤ 16
    · simp [hi, ha, hp, p_fits_1]; omega
    · simp [hi, ha, hp, p_fits_1]
  simp only [List.all_nil, Bool.true_and] at hG
  simp
  refine LoopC.scan Lse.zero s.Leases (fun i : Nat => ⟨[(2, .ptr 0 0 0), (3, .ptr 1 0 0), (6, .int .i64 i)], [.rows 8 [Cel.c r], .rows 8 [Cel.c s]]⟩) (fun l => fitS r s = (l.all (p_fits_2 r) && s.Locks.all p_fits_3)) (by simp) (by simp) hG (fun i a l hi ha hG => ?_) fun hG => ?_
  · rw [hG]
    by_cases hp : a.Want.length ≤ r.Aisles.length
    · simp [hi, ha, hp, p_fits_2, vcLoose]; omega
    · simp [hi, ha, hp, p_fits_2, vcLoose]
  simp only [List.all_nil, Bool.true_and] at hG
  simp
  refine LoopC.scan Lck.zero s.Locks (fun i : Nat => ⟨[(3, .ptr 1 0 0), (7, .int .i64 i)], [.rows 8 [Cel.c r], .rows 8 [Cel.c s]]⟩) (fun l => fitS r s = l.all p_fits_3) (by simp) (by simp) hG (fun i a l hi ha hG => ?_) fun hG => ?_
  · rw [hG]
    by_cases hp : a.Wait.length ≤ 64
    · simp [hi, ha, hp, p_fits_3]; omega
    · simp [hi, ha, hp, p_fits_3]
  · rw [hG]; simp
def cr30_big : Ctr := C2 (fun (r : Rul) (s : Stt) => okS s) fun r s => .bool (!fitS r s)
theorem known_r30_big : Known Tryz.prog 34 cr30_big := known_C2 (fun r s h => det_r30_big r s h) fun r s => flat_bool _
theorem nzero_cons (x : Int) (l : List Int) : nzero (x :: l) = nzero l + if x = 0 then 1 else 0 := by simp [nzero, List.countP_cons]
theorem det_r30_released (s : Stt) (h : okS s) : Det Tryz.prog 121 [en s] [] (.int .i64 (s.Tasks.length - nzero (s.Tasks.map fun x => x.Seq) : Int)) [] := by
  refine det_finF mixed0 knows_nil ok_r30_released 1 (by simp) ?_
  have ht := h.t
  simp [-List.map_map, ic_r30_released, rs_r30_released]
  refine LoopC.scanB Tsk.zero s.Tasks (fun i (b : Nat) => ⟨[(1, .ptr 0 0 0), (3, .int .i64 b), (4, .int .i64 i)], [.rows 8 [Cel.c s]]⟩) (fun i b r => (s.Tasks.length - nzero (s.Tasks.map fun x => x.Seq) : Int) = b + (r.length - nzero (r.map fun x => x.Seq) : Int) ∧ b ≤ i) 0 (by simp) (by simp) (by simp) (fun i a r b hi ha hd ⟨hG, hb⟩ => ?_) fun b ⟨hG, hb⟩ => ?_
  · rw [List.map_cons, nzero_cons] at hG
    simp only [List.length_cons] at hG
    by_cases he : a.Seq = 0
    · rw [if_pos he] at hG
      simp [-List.map_map, hi, ha, he]
      and_intros <;> first | omega | skip
      try exact ⟨b, by simp, by omega, by omega⟩
    · rw [if_neg he] at hG
      simp [-List.map_map, hi, ha, he]
      and_intros <;> first | omega | skip
      exact ⟨b + 1, by simp, by omega, by omega⟩
  · simp [nzero] at hG
    simp [nzero, hG]
def cr30_released : Ctr := C1 (fun s : Stt => okS s) fun s => .int .i64 (s.Tasks.length - nzero (s.Tasks.map fun x => x.Seq) : Int)
theorem known_r30_released : Known Tryz.prog 121 cr30_released := known_C1 (fun s h => det_r30_released s h) fun s => flat_int _ _
theorem det_r30_task (r : Rul) (s : Stt) (x : Tsk) (h : okT x) : Det Tryz.prog 122 [en r, en s, en x] [] (.bool (p_within_3 s r Qid x)) [] := by
  refine det_finF mixed0 (knows_cons known_R22Check (knows_cons known_r30_in (knows_cons known_r30_all knows_nil))) ok_r30_task 1 (by simp) ?_
  have h1 := up h.1
  have h2 := up h.2
  simp [ic_r30_task, rs_r30_task, cSpecErr, cr22_within, cr30_all, h1, h2, p_within_3, Qid]
def cr30_task : Ctr := C3 (fun (r : Rul) (s : Stt) (x : Tsk) => okT x) fun r s x => .bool (p_within_3 s r Qid x)
theorem known_r30_task : Known Tryz.prog 122 cr30_task := known_C3 (fun r s x h => det_r30_task r s x h) fun r s x => flat_bool _
theorem det_r30_lease (s : Stt) (x : Lse) (h : okL x) : Det Tryz.prog 124 [en s, en x] [] (.bool (p_within_4 s Qid x)) [] := by
  refine det_finF mixed0 (knows_cons known_r30_in knows_nil) ok_r30_lease 1 (by simp) ?_
  have h1 := up h
  simp [ic_r30_lease, rs_r30_lease, cr22_within, h1, p_within_4, Qid, Bool.and_assoc]
def cr30_lease : Ctr := C2 (fun (s : Stt) (x : Lse) => okL x) fun s x => .bool (p_within_4 s Qid x)
theorem known_r30_lease : Known Tryz.prog 124 cr30_lease := known_C2 (fun s x h => det_r30_lease s x h) fun s x => flat_bool _
theorem det_r30_Start (r : Rul) (hr : r.Aisles.length ≤ 1073741824) : Det Tryz.prog 9 [en r] [] (.tup [en (startOf r), en (rulErr r)]) [] := by
  refine det_finF mixed0 (knows_cons known_r22_Rules knows_nil) ok_r30_Start 4 (by simp) ?_
  by_cases he : rulErr r = 0
  · simp [ic_r30_Start, rs_r30_Start, cRules, up hr, he, startOf]
    refine LoopC.scanR Ais.zero r.Aisles (fun i (b : List Ais) => ⟨[(1, .ptr 0 0 0), (2, .ptr 1 0 0), (5, .ptr 2 0 0), (6, .int .i64 i)], [.rows 8 [Cel.c r], .rows 8 [[.int .i64 0, .int .i64 0, .int .i64 0, .nils, .nils, .nils, .nils, .nils]], .rows 8 [[.int .i64 r.Start, .int .i64 0, .int .i64 0, .nils, .nils, .nils, .nils, bs 3 (b.map lk0)]], bob 3 (b.map lk0)]⟩)
      (fun i b l => b.length = i ∧ r.Aisles = b ++ l) [] [0, 1, 2, 3] (by simp [atR]) (by simp) (fun i a l b hi ha hd ⟨hb, hG⟩ => ?_) fun b ⟨hb, hG⟩ => ?_
    · have hr' : (b.map lk0).map (fun r => r.map (rn 2 [0, 1, 2, 4])) = b.map lk0 := by
        rw [List.map_map]; exact List.map_congr_left fun x _ => rfl
      simp [hi, ha, vcLoose, heapsOf]
      and_intros <;> first | omega | skip
      refine ⟨b ++ [a], ⟨[0, 1, 2, 4], by simp [atR, hr', lk0_low, lk0]⟩, by simp [hb], by simp [hG]⟩
    · simp at hG
      rw [hG]
      simp [lk0]
      refine ⟨by omega, fun _ => ?_⟩
      intro row hrow x hx
      obtain ⟨y, _, rfl⟩ := List.mem_map.1 hrow
      simp [lk0] at hx
      rcases hx with rfl | rfl | rfl <;> simp [frp]
  · simp [ic_r30_Start, rs_r30_Start, cRules, up hr, he, startOf, Stt.zero]
theorem known_r30_Start : Known Tryz.prog 9 cStart := known_V1 (fun x h => det_r30_Start x h) fun x h => closed_tupl fun a ha => by
  rcases List.mem_cons.1 ha with rfl | ha
  · exact closed_en _
  · rcases List.mem_cons.1 ha with rfl | ha
    · exact closed_en _
    · cases ha
end Go.Proofs.YtoapfffakfmioaaGreat.Sx
