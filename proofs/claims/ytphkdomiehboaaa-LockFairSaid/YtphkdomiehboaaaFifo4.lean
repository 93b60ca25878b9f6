/- The statement FifoDoes of the queue: its function returns true. No conditions: a kit of our own. -/
import Derived.Test.YtphkdomiehboaaaFifo3
import Derived.Test.YtphkdomiehboaaaSx22
namespace Go.Proofs.Ytphkdomiehboaaa.Sx
open Go Go.RowKit
set_option linter.unusedVariables false
set_option linter.unusedSimpArgs false

def rA (a : Int × Int) : List AV := [.int .i64 a.1, .int .i64 a.2]
def vA (l : List (Int × Int)) : AV := .view (l.map rA)
@[simp] theorem nth_rA (l : List (Int × Int)) (n : Nat) : nth (l.map rA) n [.int .i64 0, .int .i64 0] = [.int .i64 (nth l n (0, 0)).1, .int .i64 (nth l n (0, 0)).2] := nth_map rA (0, 0) l n
theorem closed_vA (l : List (Int × Int)) : Closed (vA l) := closed_rows fun r hr a ha => by
  simp only [List.mem_map] at hr
  obtain ⟨x, _, rfl⟩ := hr
  simp only [rA, List.mem_cons, List.not_mem_nil, or_false] at ha
  rcases ha with rfl | rfl <;> exact .int _ _
@[simp] theorem nth_rI0 (y : Int) (d : AV) : nth (rI y) 0 d = .int .i64 y := rfl
def cAlive : Ctr := pureC (fun a => a = []) (fun _ => .bool true)
theorem known_Alive18 : Known Try.prog 11 cAlive := by
  rintro args H rfl
  exact det_l18_alive.pure (by simp) (closed_bool _) H

def stD (n : Int) (acts : List (Int × Int)) (a : Nat × Q) : AS := ⟨[(5, .ptr 1 0 0), (6, .int .i64 n), (7, vI a.2.all), (26, vA acts), (27, .int .i64 acts.length), (28, .int .i64 a.1)], HQ a.2 []⟩
theorem stD_low (n : Int) (acts : List (Int × Int)) (b : Nat × Q) : lowTm (stD n acts b).hp.length (stD n acts b).tm ∧ ∀ o ∈ (stD n acts b).hp, LowO (stD n acts b).hp.length o :=
  ⟨lowTm_cons (low_ptr (by simp [stD, HQ])) (lowTm_cons (low_closed (closed_int _ _)) (lowTm_cons (low_closed (closed_vI _)) (lowTm_cons (low_closed (closed_vA _)) (lowTm_cons (low_closed (closed_int _ _)) (lowTm_cons (low_closed (closed_int _ _)) (lowTm_nil _)))))), low_HQ b.2⟩

def Γ18 : FuncId → Ctr := Γof [(11, cAlive), (12, cNew), (13, cClip), (14, cPut), (15, cR18Put), (16, cTake), (17, cDrop),
  (18, cR18Drop), (19, cFirst), (20, cAt), (21, cR18At), (22, cInts), (23, cList), (24, cLen), (25, cRoom)]
@[simp] theorem g18_0 : Γ18 11 = cAlive := rfl
@[simp] theorem g18_1 : Γ18 12 = cNew := rfl
@[simp] theorem g18_2 : Γ18 13 = cClip := rfl
@[simp] theorem g18_3 : Γ18 14 = cPut := rfl
@[simp] theorem g18_4 : Γ18 15 = cR18Put := rfl
@[simp] theorem g18_5 : Γ18 16 = cTake := rfl
@[simp] theorem g18_6 : Γ18 17 = cDrop := rfl
@[simp] theorem g18_7 : Γ18 18 = cR18Drop := rfl
@[simp] theorem g18_8 : Γ18 19 = cFirst := rfl
@[simp] theorem g18_9 : Γ18 20 = cAt := rfl
@[simp] theorem g18_10 : Γ18 21 = cR18At := rfl
@[simp] theorem g18_11 : Γ18 22 = cInts := rfl
@[simp] theorem g18_12 : Γ18 23 = cList := rfl
@[simp] theorem g18_13 : Γ18 24 = cLen := rfl
@[simp] theorem g18_14 : Γ18 25 = cRoom := rfl
theorem knows18 : Knows Try.prog Γ18 :=
  knows_cons known_Alive18 (knows_cons known_New (knows_cons known_Clip (knows_cons known_Put (knows_cons known_R18Put (knows_cons known_Take (knows_cons known_Drop
    (knows_cons known_R18Drop (knows_cons known_First (knows_cons known_At (knows_cons known_R18At (knows_cons known_Ints (knows_cons known_List (knows_cons known_Len (knows_cons known_Room knows_nil))))))))))))))

set_option maxHeartbeats 4000000 in
theorem det_FifoDoes (room : Int) (acts : List (Int × Int)) : Det Try.prog 3 [.int .i64 room, vA acts] [] (.bool true) [] := by
  refine det_finF mixed knows18 ok_l18_FifoDoes 1 (by simp) ?_
  have hc : (if room < 0 then 0 else if 1024 < room then 1024 else room) = max (min room 1024) 0 := by split <;> (try split) <;> omega
  have h0 := newQ_ok room
  have hr0 := newQ_room room
  have ha0 := newQ_all room
  simp [ic_l18_FifoDoes, rs_l18_FifoDoes, cAlive, cNew, cClip, pureC, pureH, hc, vA]
  intro hlen
  refine LoopC.byF (stD (max (min room 1024) 0) acts) (fun b => b.2.ok ∧ b.2.room = max (min room 1024) 0 ∧ b.1 ≤ acts.length) (fun b => acts.length - b.1) (0, newQ room) (fun b => Nat.zero_le _) (fun b _ => stD_low _ _ b) ?_ fun ⟨i, q⟩ ⟨hok, hroom, hi⟩ => ?_
  · refine ⟨?_, ⟨[], rfl⟩, h0, hr0, Nat.zero_le _⟩
    simp [stD, ha0, vA]
    exact hc
  · generalize hn : max (min room 1024) 0 = n at *
    simp only at hok hroom hi
    simp [stD, vA]
    refine ⟨fun hlt => ⟨hlt, ?_⟩, fun hge => ?_⟩
    · generalize nth acts i (0, 0) = act
      refine JoinC.by' (fun s' => ∃ q1 : Q, q1.ok ∧ q1.room = n ∧ s' = ⟨[(5, .ptr 1 0 0), (6, .int .i64 n), (7, vI q1.all), (9, .ptr 2 0 0), (26, vA acts), (27, .int .i64 acts.length), (28, .int .i64 i)], HQ q1 [.rows 2 [rA act]]⟩) ?_ ?_
      · have hr := isQ_HQ hok
        have hu := unQ_HQ' hok
        have hnl := n_law hok
        have hb1 := hok.n1; have hb2 := hok.room
        by_cases k1 : act.1 = 1
        · obtain ⟨ok1, room1, v1, a1⟩ := put_law hok act.2
          generalize hq1 : q.put act.2 = p1 at *
          obtain ⟨w, q1⟩ := p1
          simp only at ok1 room1 v1 a1
          by_cases hx : act.2 ∈ q.all
          · simp only [hx, if_true] at v1 a1
            simp [vA, rA, k1, cPut, cR18Put, pureC, hr, hu, hok, hq1, v1, hx]
            exact ⟨by omega, q1, ok1, by omega, a1.symm, rfl⟩
          · by_cases hfull : q.n = q.room
            · simp only [hx, if_false, hfull, if_true] at v1 a1
              have hle : n ≤ q.all.length := by omega
              simp [vA, rA, k1, cPut, cR18Put, pureC, hr, hu, hok, hq1, v1, hx, hle]
              exact ⟨by omega, q1, ok1, by omega, a1.symm, rfl⟩
            · simp only [hx, if_false, hfull] at v1 a1
              have hle : ¬ n ≤ q.all.length := by omega
              simp [vA, rA, k1, cPut, cR18Put, pureC, hr, hu, hok, hq1, v1, hx, hle]
              exact ⟨by omega, q1, ok1, by omega, by rw [a1]; simp, rfl⟩
        · by_cases k2 : act.1 = 2
          · obtain ⟨ok1, room1, v1, a1⟩ := take_law hok
            have hf := first_law hok
            generalize hq1 : q.take = p1 at *
            obtain ⟨w, q1⟩ := p1
            simp only at ok1 room1 v1 a1
            subst v1
            cases hall : q.all with
            | nil =>
              rw [hall] at hf a1
              simp [vA, rA, k2, cTake, hr, hu, hok, hq1, hf, hall]
              exact ⟨q1, ok1, by omega, by simpa using a1, rfl⟩
            | cons y ys =>
              rw [hall] at hf a1
              simp [vA, rA, k2, cTake, hr, hu, hok, hq1, hf, hall]
              exact ⟨by omega, q1, ok1, by omega, by rw [a1]; rfl, rfl⟩
          · by_cases k3 : act.1 = 3
            · obtain ⟨ok1, room1, v1, a1⟩ := drop_law hok act.2
              generalize hq1 : q.drop act.2 = p1 at *
              obtain ⟨w, q1⟩ := p1
              simp only at ok1 room1 v1 a1
              rw [hok.nodup.erase_eq_filter] at a1
              simp [vA, rA, k3, cDrop, cR18Drop, pureC, hr, hu, hok, hq1, v1]
              refine ⟨by omega, q1, ok1, by omega, ?_, rfl⟩
              rw [a1]
              apply List.filter_congr
              intro x _
              by_cases hx : x = act.2 <;> simp [hx]
            · simp [vA, rA, k1, k2, k3]
              exact ⟨q, hok, hroom, rfl, rfl⟩
      · rintro s' ⟨q1, ok1, room1, rfl⟩
        have hf := first_law ok1
        have hfind := find_law ok1 act.2
        have hn1 := n_law ok1
        have hb1 := ok1.n1; have hb2 := ok1.room
        have hr := isQ_HQ ok1
        have hu := unQ_HQ' ok1
        cases hall : q1.all with
        | nil =>
          rw [hall] at hf hfind hn1
          simp only [List.length_nil, List.length_cons] at hn1
          simp [vA, rA, cFirst, pureH, hr, hu, ok1, hf, cAt, hfind, cR18At, pureC, cList, cInts, cLen, hn1, cRoom, room1, hall]
          exact ⟨by omega, (i + 1, q1), by simp; omega, by simp [stD, vA, hall], ⟨_, rfl⟩, ok1, room1, by simp; omega⟩
        | cons y ys =>
          rw [hall] at hf hfind hn1
          simp only [List.length_nil, List.length_cons] at hn1
          simp [vA, rA, cFirst, pureH, hr, hu, ok1, hf, cAt, hfind, cR18At, pureC, cList, cInts, cLen, hn1, cRoom, room1, hall]
          exact ⟨by omega, by omega, (i + 1, q1), by simp; omega, by simp [stD, vA, hall], ⟨_, rfl⟩, ok1, room1, by simp; omega⟩
    · simp [cAlive, pureC]
end Go.Proofs.Ytphkdomiehboaaa.Sx
