/- What the shelf's proof of slices.Sort at []int takes of the program. No conditions: a kit of our own. -/
import Derived.Test.YtnjpfoblmomnlaaProg
import Derived.Shelf.Sort.Plain
import Derived.Shelf.Slices.In.SortNone
import Derived.Test.YtnjpfoblmomnlaaTy13
namespace Go.Proofs.Ytnjpfoblmomnlaa.Sx
open Go Go.Shelf Go.RowKit
set_option linter.unusedVariables false

/-- The shelf's numbers of functions and types, as the program's. -/
def sortRen : Ren where
  f := fun x => match x with
    | 189 => 159
    | 125 => 239
    | 257 => 238
    | 128 => 283
    | 129 => 284
    | 294 => 274
    | 295 => 275
    | 296 => 276
    | 297 => 277
    | 298 => 278
    | 299 => 279
    | 216 => 280
    | 300 => 281
    | 301 => 282
    | 328 => 294
    | 329 => 295
    | 330 => 296
    | 331 => 297
    | 332 => 298
    | 215 => 299
    | 343 => 305
    | n => n
  t := fun x => match x with
    | 28 => 43
    | 3 => 3
    | 46 => 302
    | 0 => 0
    | 51 => 334
    | 53 => 40
    | 4 => 4
    | 183 => 327
    | 182 => 326
    | 131 => 117
    | 5 => 5
    | 9 => 9
    | 218 => 348
    | 222 => 352
    | 228 => 355
    | 229 => 356
    | n => n
  g := fun x => x
theorem sortLays : Lays.n189 Try.prog sortRen :=
  { mixed := Eq.refl true, f125 := Eq.trans Try.func239 (congrArg some (Eq.refl (Body.n125 sortRen))), f128 := Eq.trans Try.func283 (congrArg some (Eq.refl (Body.n128 sortRen))), f129 := Eq.trans Try.func284 (congrArg some (Eq.refl (Body.n129 sortRen))), f189 := Eq.trans Try.func159 (congrArg some (Eq.refl (Body.n189 sortRen))), f215 := Eq.trans Try.func299 (congrArg some (Eq.refl (Body.n215 sortRen))), f216 := Eq.trans Try.func280 (congrArg some (Eq.refl (Body.n216 sortRen))), f257 := Eq.trans Try.func238 (congrArg some (Eq.refl (Body.n257 sortRen))), f294 := Eq.trans Try.func274 (congrArg some (Eq.refl (Body.n294 sortRen))), f295 := Eq.trans Try.func275 (congrArg some (Eq.refl (Body.n295 sortRen))), f296 := Eq.trans Try.func276 (congrArg some (Eq.refl (Body.n296 sortRen))), f297 := Eq.trans Try.func277 (congrArg some (Eq.refl (Body.n297 sortRen))), f298 := Eq.trans Try.func278 (congrArg some (Eq.refl (Body.n298 sortRen))), f299 := Eq.trans Try.func279 (congrArg some (Eq.refl (Body.n299 sortRen))), f300 := Eq.trans Try.func281 (congrArg some (Eq.refl (Body.n300 sortRen))), f301 := Eq.trans Try.func282 (congrArg some (Eq.refl (Body.n301 sortRen))), f328 := Eq.trans Try.func294 (congrArg some (Eq.refl (Body.n328 sortRen))), f329 := Eq.trans Try.func295 (congrArg some (Eq.refl (Body.n329 sortRen))), f330 := Eq.trans Try.func296 (congrArg some (Eq.refl (Body.n330 sortRen))), f331 := Eq.trans Try.func297 (congrArg some (Eq.refl (Body.n331 sortRen))), f332 := Eq.trans Try.func298 (congrArg some (Eq.refl (Body.n332 sortRen))), f343 := Eq.trans Try.func305 (congrArg some (Eq.refl (Body.n343 sortRen))), t0 := Try.underlying0, a0 := Try.isAgg0, z0 := Try.sizeOf0, v0 := Try.zeroValue0, t3 := Try.underlying3, a3 := Try.isAgg3, z3 := Try.sizeOf3, v3 := Try.zeroValue3, t4 := Try.underlying4, a4 := Try.isAgg4, z4 := Try.sizeOf4, v4 := Try.zeroValue4, t5 := Try.underlying5, a5 := Try.isAgg5, z5 := Try.sizeOf5, v5 := Try.zeroValue5, t9 := Try.underlying9, a9 := Try.isAgg9, z9 := Try.sizeOf9, v9 := Try.zeroValue9, t28 := Try.underlying43, a28 := Try.isAgg43, z28 := Try.sizeOf43, v28 := Try.zeroValue43, t46 := Try.underlying302, a46 := Try.isAgg302, z46 := Try.sizeOf302, v46 := Try.zeroValue302, t51 := Try.underlying334, a51 := Try.isAgg334, z51 := Try.sizeOf334, v51 := Try.zeroValue334, t53 := Try.underlying40, a53 := Try.isAgg40, z53 := Try.sizeOf40, v53 := Try.zeroValue40, t131 := Try.underlying117, a131 := Try.isAgg117, z131 := Try.sizeOf117, v131 := Try.zeroValue117, t182 := Try.underlying326, a182 := Try.isAgg326, z182 := Try.sizeOf326, v182 := Try.zeroValue326, t183 := Try.underlying327, a183 := Try.isAgg327, z183 := Try.sizeOf327, v183 := Try.zeroValue327, t218 := Try.underlying348, a218 := Try.isAgg348, z218 := Try.sizeOf348, v218 := Try.zeroValue348, t222 := Try.underlying352, a222 := Try.isAgg352, z222 := Try.sizeOf352, v222 := Try.zeroValue352, t228 := Try.underlying355, a228 := Try.isAgg355, z228 := Try.sizeOf355, v228 := Try.zeroValue355, t229 := Try.underlying356, a229 := Try.isAgg356, z229 := Try.sizeOf356, v229 := Try.zeroValue356 }
end Go.Proofs.Ytnjpfoblmomnlaa.Sx
/- slices.Sort at []int, as a contract: by the shelf's proof. No conditions: a kit of our own. -/
namespace Go.Proofs.Ytnjpfoblmomnlaa.Sx
open Go Go.Shelf Go.Sort Go.RowKit
set_option linter.unusedVariables false
set_option linter.unusedSimpArgs false

def sorted (l : List Int) : List Int := l.mergeSort fun x y => decide (x ≤ y)
@[simp] theorem sorted_len (l : List Int) : (sorted l).length = l.length := List.length_mergeSort ..
/-- The heap behind it. -/
def sortedW (w : World) (n b off : Nat) (l : List Int) (os : Array Obj) : World := Sort.grow (putRow (Value.int .i64) (Sort.ahead w n) b off (sorted l).toArray) os
theorem sortedW_heap {w : World} {n b off : Nat} {l : List Int} {os : Array Obj} {k : Nat} (hk : k < w.heap.size) : (sortedW w n b off l os).heap[k]? = if k = b then (w.heap[k]?).map (onCells (putCells (Value.int .i64) off (sorted l).toArray)) else w.heap[k]? := by
  have e : (sortedW w n b off l os).heap = w.heap.modify b (onCells (putCells (Value.int .i64) off (sorted l).toArray)) ++ os := rfl
  rw [e, Array.getElem?_append_left (by simpa using hk), Array.getElem?_modify]
  by_cases h : b = k
  · subst h; simp
  · rw [if_neg h, if_neg (Ne.symm h)]
theorem sortedW_size (w : World) (n b off : Nat) (l : List Int) (os : Array Obj) : w.heap.size ≤ (sortedW w n b off l os).heap.size := by
  have e : (sortedW w n b off l os).heap = w.heap.modify b (onCells (putCells (Value.int .i64) off (sorted l).toArray)) ++ os := rfl
  rw [e]; simp
theorem sortedW_turned {w : World} {n b off : Nat} {l : List Int} {os : Array Obj} : Turned w (sortedW w n b off l os) (fun c => c = b) where
  os := rfl
  tape := rfl
  output := rfl
  size := sortedW_size w n b off l os
  keep := fun c hc hn => by rw [sortedW_heap hc, if_neg hn]
  room := fun c cs e fr hc => by
    have hlt := (Array.getElem?_eq_some_iff.1 hc).1
    rw [sortedW_heap hlt]
    by_cases h : c = b
    · rw [if_pos h, hc]
      exact ⟨_, rfl, by simp [putCells]⟩
    · rw [if_neg h]
      exact ⟨cs, hc, rfl⟩
def cSort : Ctr := ⟨fun a H => match a with
  | [.sl id r n] => r = 0 ∧ ∃ l : List Int, n = l.length ∧ H[id]? = some (.rows 1 (l.map Cel.c)) ∧ l.length ≤ 1073741824
  | _ => False, fun a H => .tup [], fun a H => match a with
  | [.sl id r n] => H.set id (.rows 1 ((sorted ((rowsOf H id).map (Cel.u []))).map Cel.c))
  | _ => H⟩
@[simp] theorem cSort_pre (id r n : Nat) (H : List AObj) : cSort.pre [.sl id r n] H = (r = 0 ∧ ∃ l : List Int, n = l.length ∧ H[id]? = some (.rows 1 (l.map Cel.c)) ∧ l.length ≤ 1073741824) := rfl
@[simp] theorem cSort_val (a : List AV) (H : List AObj) : cSort.val a H = .tup [] := rfl
@[simp] theorem cSort_hp (id r n : Nat) (H : List AObj) : cSort.hp [.sl id r n] H = H.set id (.rows 1 ((sorted ((rowsOf H id).map (Cel.u []))).map Cel.c)) := rfl
theorem known_Sort : Known Try.prog 159 cSort := fun args H hp => by
  match args, hp with
  | [.sl id r n], hp =>
    obtain ⟨rfl, l, rfl, ho, hl⟩ := hp
    have hr : rowsOf H id = l.map Cel.c := by simp [rowsOf, ho]
    have hu : (l.map Cel.c).map (Cel.u (α := Int) []) = l := by
      rw [List.map_map]; exact map_self fun x _ => Cel.u_c [] x
    refine ⟨by kernel_rfl, fun E vs hH hv => ?_⟩
    obtain ⟨v, rfl⟩ : ∃ v, vs = [v] := by
      have h := hv.len
      match vs, h with
      | [v], _ => exact ⟨v, rfl⟩
    have g := hv.at_ 0 _ v rfl rfl
    obtain ⟨loc, cap, i', hloc, rfl, hcap, hroom, hor, hi'⟩ := g.sl_inv hH ho (by simp)
    by_cases hln : l = []
    · subst hln
      have e0 : sorted [] = [] := by simp [sorted]
      have e1 : cSort.hp [.sl id 0 ([] : List Int).length] H = H := by
        rw [cSort_hp, hr]
        simp only [List.map_nil, e0]
        exact set_same ho
      have e2 : cSort.val [.sl id 0 ([] : List Int).length] H = .tup [] := rfl
      rw [e1, e2]
      refine (Any.slices_Sort_int_none sortLays _ cap E.w).mono fun e w' ⟨he', hw⟩ => ?_
      subst hw
      exact ⟨.tuple #[], E, .tup [], H, he', rfl, .tup rfl fun i a v h1 h2 => by simp at h1, hH, Ext.refl (by rw [hH.n]; exact Nat.le_refl _), rfl, rfl⟩
    obtain rfl : i' = 0 := hi'.resolve_right (fun h => hln (List.length_eq_zero_iff.1 (by omega)))
    have hblt := hH.own_lt hloc
    cases hor with
    | rows cs e hs hb hlen hrl h1 h =>
      have hs1 : loc.sz = 1 := hs
      have hlen' : loc.base + l.length ≤ cs.size := by simpa using hlen
      have hold : Holds (Value.int .i64) E.w loc.b loc.base l.toArray := fun j hj => by
        have hj' : j < l.length := by simpa using hj
        have hjc : loc.base + j < cs.size := by omega
        have hv := h j [.int .i64 l[j]] 0 (.int .i64 l[j]) cs[loc.base + j] (by simp [hj']) rfl (by simp)
        have hv2 : cs[loc.base + j] = .int .i64 l[j] := by
          generalize cs[loc.base + j] = u at hv
          cases hv; rfl
        refine ⟨?_, ?_⟩
        · simp [World.cell?, hb, hv2, hjc, hj']
        · simp [World.frozen?, hb]
      have hcall := Any.slices_Sort_int sortLays loc.b loc.base cap l E.w hold hblt (by omega)
      have he : (⟨loc.b, loc.base + 0 * loc.sz, none⟩ : Addr) = ⟨loc.b, loc.base, none⟩ := by simp
      rw [he]
      refine hcall.mono fun e' w' ⟨he', n, os, hw⟩ => ?_
      have hw' : w' = sortedW E.w n loc.b loc.base l os := hw
      subst hw'
      obtain ⟨k1, k2⟩ := hH.write hloc (sortedW_turned (n := n) (off := loc.base) (l := l) (os := os)) (o := .rows 1 ((sorted l).map Cel.c)) (fun x => by
        have hb' : (sortedW E.w n loc.b loc.base l os).heap[loc.b]? = some (.cells (putCells (Value.int .i64) loc.base (sorted l).toArray cs) e (0, 0)) := by
          rw [sortedW_heap hblt, if_pos rfl, hb]; rfl
        have hget : ∀ k, k < l.length → (putCells (Value.int .i64) loc.base (sorted l).toArray cs)[loc.base + k]? = some (.int .i64 (nth (sorted l) k 0)) := fun k hk => by
          have hkc : loc.base + k < cs.size := by omega
          simp [putCells, hkc, hk, nth, List.getD_eq_getElem?_getD]
        refine .rows (putCells (Value.int .i64) loc.base (sorted l).toArray cs) e hs1 hb' (by simp [putCells]; omega) (fun i row hi => ?_) (fun k v hk hv => ?_) fun i row j a v hi hj hv => ?_
        · obtain ⟨z, _, rfl⟩ := List.mem_map.1 (List.mem_of_getElem? hi)
          rfl
        · have hk' : k < l.length := by simpa using hk
          rw [hget k hk'] at hv
          cases hv; rfl
        · have hi' : i < l.length := by have := (List.getElem?_eq_some_iff.1 hi).1; simpa using this
          simp only [List.getElem?_map] at hi
          rw [List.getElem?_eq_getElem (by simpa using hi')] at hi
          simp only [Option.map_some, Option.some.injEq] at hi
          subst hi
          match j, hj with
          | 0, hj =>
            simp at hj
            subst hj
            have hv0 := hget i hi'
            rw [nth_get (by simpa using hi')] at hv0
            simp only [Nat.mul_one, Nat.add_zero] at hv
            rw [hv0] at hv
            cases hv
            exact .int _ _
          | j + 1, hj => simp at hj)
      refine ⟨.tuple #[], ⟨sortedW E.w n loc.b loc.base l os, E.s, E.n, E.x⟩, .tup [], _, he', rfl, .tup rfl fun i a v h1 h2 => by simp at h1, k1, ?_, rfl, ?_⟩
      · rw [← hH.n]; exact k2
      · simp only [cSort_hp, hr, hu]
end Go.Proofs.Ytnjpfoblmomnlaa.Sx
