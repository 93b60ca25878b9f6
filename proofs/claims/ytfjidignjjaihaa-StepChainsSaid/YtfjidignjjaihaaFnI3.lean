/- Package idset: sides, pick, Or, And, Less, Within. No conditions: a kit of our own. -/
import Derived.Test.YtfjidignjjaihaaFnI2
namespace Go.Proofs.Ytfjidignjjaihaa.Sx
open Go Go.RowKit
set_option linter.unusedVariables false
set_option linter.unusedSimpArgs false

/-- The two boxes that pick's closure sees, and what it has put. -/
def pkH (f : FuncId) (acc : List Int) : List AObj := [.rows 1 [[.fn f [] []]], .rows 1 [[bs 2 (acc.map Cel.c)]], bob 1 (acc.map Cel.c)]
theorem pkH_eq (f : FuncId) (acc : List Int) : pkH f acc = [.rows 1 [[.fn f [] []]], .rows 1 [[bs 2 (acc.map Cel.c)]], bob 1 (acc.map Cel.c)] := rfl
/-- What pick's closure does. -/
def cPick1 (f : FuncId) (p : Bool → Bool → Bool) : Ctr := ⟨fun a H => ∃ (n : Int) (o t : Bool) (acc : List Int), (a = [.int .i64 n, .bool o, .bool t, .ptr 0 0 0, .ptr 1 0 0] ∧ H = pkH f acc) ∧ acc.length ≤ 1073741823, fun a H => .tup [], fun a H => match a with
  | [.int .i64 n, .bool o, .bool t, _, _] => if p o t then [.rows 1 [[.fn f [] []]], .rows 1 [[.sl 3 0 ((rowsOf H 2).length + 1)]], .dead, .rows 1 (rowsOf H 2 ++ [[.int .i64 n]])] else H
  | _ => H⟩
theorem known_pick1 (f : FuncId) (p : Bool → Bool → Bool) (hf : Known Try.prog f (C2 (fun o t : Bool => True) fun o t => .bool (p o t))) : Known Try.prog 220 (cPick1 f p) := fun args H hp => by
  obtain ⟨n, o, t, acc, ⟨rfl, rfl⟩, hl⟩ := hp
  refine det_fin0 mixed0 (knows_cons hf knows_nil) ok_idset_pick_1 (by simp) ?_
  simp [ic_idset_pick_1, rs_idset_pick_1, cPick1, pkH, hl]
theorem cPick1_pre {f : FuncId} {p : Bool → Bool → Bool} {n : Int} {o t : Bool} {acc : List Int} (h : acc.length ≤ 1073741823) : (cPick1 f p).pre [.int .i64 n, .bool o, .bool t, .ptr 0 0 0, .ptr 1 0 0] (pkH f acc) := ⟨n, o, t, acc, ⟨rfl, rfl⟩, h⟩
theorem cPick1_yes {f : FuncId} {p : Bool → Bool → Bool} {n : Int} {o t : Bool} {acc : List Int} (h : p o t = true) : (cPick1 f p).hp [.int .i64 n, .bool o, .bool t, .ptr 0 0 0, .ptr 1 0 0] (pkH f acc) = [.rows 1 [[.fn f [] []]], .rows 1 [[.sl 3 0 (acc.length + 1)]], .dead, .rows 1 (acc.map Cel.c ++ [[.int .i64 n]])] := by
  simp [cPick1, h, pkH]
theorem cPick1_no {f : FuncId} {p : Bool → Bool → Bool} {n : Int} {o t : Bool} {acc : List Int} (h : p o t = false) : (cPick1 f p).hp [.int .i64 n, .bool o, .bool t, .ptr 0 0 0, .ptr 1 0 0] (pkH f acc) = pkH f acc := by
  simp [cPick1, h]
theorem cvI (v : Int) (y : List Int) : Closed (.view ([.int .i64 v] :: y.map Cel.c)) = True := eq_true (closed_viewc (v :: y))
def pkF : AV := .fn 220 [] [.ptr 0 0 0, .ptr 1 0 0]
def pk0 (f : FuncId) : List AObj := [.rows 1 [[.fn f [] []]], .rows 1 [[.nils]]]
theorem picks_nil (p : Bool → Bool → Bool) : picks p [] [] = [] := by simp [picks, zipS]
theorem picks_1 (p : Bool → Bool → Bool) (a : Int) (x : List Int) : picks p (a :: x) [] = (if p true false then [a] else []) ++ picks p x [] := by
  simp [picks, zipS, List.filter_cons]; split <;> simp
theorem picks_2 (p : Bool → Bool → Bool) (b : Int) (y : List Int) : picks p [] (b :: y) = (if p false true then [b] else []) ++ picks p [] y := by
  simp [picks, zipS, List.filter_cons]; split <;> simp
theorem picks_3 (p : Bool → Bool → Bool) (a b : Int) (x y : List Int) : picks p (a :: x) (b :: y) = if a < b then (if p true false then [a] else []) ++ picks p x (b :: y) else if b < a then (if p false true then [b] else []) ++ picks p (a :: x) y else (if p true true then [a] else []) ++ picks p x y := by
  rw [picks, zipS]
  split
  · simp [picks, List.filter_cons]; split <;> simp
  · split
    · simp [picks, List.filter_cons]; split <;> simp
    · simp [picks, List.filter_cons]; split <;> simp
attribute [local irreducible] picks setL
theorem det_sides (f : FuncId) (p : Bool → Bool → Bool) (hf : Known Try.prog f (C2 (fun o t : Bool => True) fun o t => .bool (p o t))) (a b : List Int) (ha : a.length ≤ 536870911) (hb : b.length ≤ 536870911) :
    Det Try.prog 219 [en a, en b, pkF] (pk0 f) (.tup []) (pkH f (picks p (setL a) (setL b))) := by
  refine det_fin0 mixed0 (knows_cons known_IdSet (knows_cons (known_pick1 f p hf) knows_nil)) ok_idset_sides (by simp [pkF]) ?_
  have hs1 := setL_len a
  have hs2 := setL_len b
  have ha' : a.length ≤ 1073741824 := by omega
  have hb' : b.length ≤ 1073741824 := by omega
  simp [ic_idset_sides, rs_idset_sides, cSet, ha', hb', pk0, pkF]
  refine LoopC.genR (fun s : (List Int × List Int) × List Int => ⟨[(2, .fn 220 [] [.ptr 0 0 0, .ptr 1 0 0]), (6, .view (s.1.1.map Cel.c)), (7, .view (s.1.2.map Cel.c))], pkH f s.2⟩) (fun s => picks p (setL a) (setL b) = s.2 ++ picks p s.1.1 s.1.2 ∧ s.2.length + s.1.1.length + s.1.2.length ≤ 1073741822) (fun s => s.1.1.length + s.1.2.length) ((setL a, setL b), []) [0, 1, 2] (by simp [atR, pkH]; rfl) (by simp; omega) ?_
  rintro ⟨⟨x, y⟩, acc⟩ ⟨hG, hl⟩
  simp only at hG hl
  rcases x with _ | ⟨u, x⟩ <;> rcases y with _ | ⟨v, y⟩
  · rw [picks_nil] at hG
    simp [hG]
  · rw [picks_2] at hG
    simp at hl
    simp
    refine ⟨by omega, by omega, cPick1_pre (by omega), [], y, ?_⟩
    cases h : p false true
    · simp [h] at hG
      exact ⟨acc, ⟨[0, 1, 2], by rw [cPick1_no h]; simp [atR, pkH, cvI]; rfl⟩, ⟨hG, by first | omega | (simp; omega)⟩, by simp⟩
    · simp [h] at hG
      exact ⟨acc ++ [v], ⟨[0, 1, 3], by rw [cPick1_yes h]; simp [atR, pkH, cvI]; rfl⟩, ⟨by simp [hG], by first | omega | (simp; omega)⟩, by simp⟩
  · rw [picks_1] at hG
    simp at hl
    simp
    refine ⟨by omega, by omega, cPick1_pre (by omega), x, [], ?_⟩
    cases h : p true false
    · simp [h] at hG
      exact ⟨acc, ⟨[0, 1, 2], by rw [cPick1_no h]; simp [atR, pkH, cvI]; rfl⟩, ⟨hG, by first | omega | (simp; omega)⟩, by simp⟩
    · simp [h] at hG
      exact ⟨acc ++ [u], ⟨[0, 1, 3], by rw [cPick1_yes h]; simp [atR, pkH, cvI]; rfl⟩, ⟨by simp [hG], by first | omega | (simp; omega)⟩, by simp⟩
  · rw [picks_3] at hG
    simp at hl
    have hp1 : (0 : Int) < (x.length : Int) + 1 + ((y.length : Int) + 1) := by omega
    have hp2 : ¬ (x.length : Int) + 1 + ((y.length : Int) + 1) ≤ 0 := by omega
    have hx0 : ¬ (x.length : Int) + 1 = 0 := by omega
    have hy0 : ¬ (y.length : Int) + 1 = 0 := by omega
    by_cases h1 : u < v
    · have h2 : u ≤ v := by omega
      have h3 : ¬ v ≤ u := by omega
      simp [h1] at hG
      simp [h1, h2, h3, hp1, hp2, hx0, hy0]
      refine ⟨by omega, by omega, cPick1_pre (by omega), x, v :: y, ?_⟩
      cases h : p true false
      · simp [h] at hG
        exact ⟨acc, ⟨[0, 1, 2], by rw [cPick1_no h]; simp [atR, pkH, cvI]; rfl⟩, ⟨by simp [hG], by first | omega | (simp; omega)⟩, by simp⟩
      · simp [h] at hG
        exact ⟨acc ++ [u], ⟨[0, 1, 3], by rw [cPick1_yes h]; simp [atR, pkH, cvI]; rfl⟩, ⟨by simp [hG], by first | omega | (simp; omega)⟩, by simp⟩
    · by_cases h2 : v < u
      · have h3 : ¬ u ≤ v := by omega
        have h4 : v ≤ u := by omega
        simp [h1, h2] at hG
        simp [h2, h3, h4, hp1, hp2, hx0, hy0]
        refine ⟨by omega, by omega, cPick1_pre (by omega), u :: x, y, ?_⟩
        cases h : p false true
        · simp [h] at hG
          exact ⟨acc, ⟨[0, 1, 2], by rw [cPick1_no h]; simp [atR, pkH, cvI]; rfl⟩, ⟨by simp [hG], by first | omega | (simp; omega)⟩, by simp⟩
        · simp [h] at hG
          exact ⟨acc ++ [v], ⟨[0, 1, 3], by rw [cPick1_yes h]; simp [atR, pkH, cvI]; rfl⟩, ⟨by simp [hG], by first | omega | (simp; omega)⟩, by simp⟩
      · have h3 : u = v := by omega
        subst h3
        simp at hG
        simp [hp1, hp2, hx0, hy0]
        refine ⟨by omega, by omega, by omega, cPick1_pre (by omega), x, y, ?_⟩
        cases h : p true true
        · simp [h] at hG
          exact ⟨acc, ⟨[0, 1, 2], by rw [cPick1_no h]; simp [atR, pkH, cvI]; rfl⟩, ⟨by simp [hG], by first | omega | (simp; omega)⟩, by omega⟩
        · simp [h] at hG
          exact ⟨acc ++ [u], ⟨[0, 1, 3], by rw [cPick1_yes h]; simp [atR, pkH, cvI]; rfl⟩, ⟨by simp [hG], by first | omega | (simp; omega)⟩, by omega⟩
/-- sides, as pick calls it. -/
def cSides (f : FuncId) (p : Bool → Bool → Bool) : Ctr := ⟨fun a H => ∃ x y : List Int, (a = [.view (x.map Cel.c), .view (y.map Cel.c), pkF] ∧ H = pk0 f) ∧ x.length ≤ 536870911 ∧ y.length ≤ 536870911, fun a H => .tup [], fun a H => match a with
  | [.view x, .view y, _] => pkH f (picks p (setL (x.map (Cel.u []))) (setL (y.map (Cel.u []))))
  | _ => H⟩
theorem known_sides (f : FuncId) (p : Bool → Bool → Bool) (hf : Known Try.prog f (C2 (fun o t : Bool => True) fun o t => .bool (p o t))) : Known Try.prog 219 (cSides f p) := fun args H hp => by
  obtain ⟨x, y, ⟨rfl, rfl⟩, hx, hy⟩ := hp
  have h := det_sides f p hf x y hx hy
  have e : ∀ l : List Int, (l.map Cel.c).map (Cel.u (α := Int) []) = l := fun l => by
    rw [List.map_map]; exact map_self fun x _ => Cel.u_c [] x
  simp only [cSides, e]
  exact h
theorem cSides_pre {f : FuncId} {p : Bool → Bool → Bool} {x y : List Int} (hx : x.length ≤ 536870911) (hy : y.length ≤ 536870911) : (cSides f p).pre [.view (x.map Cel.c), .view (y.map Cel.c), pkF] (pk0 f) := ⟨x, y, ⟨rfl, rfl⟩, hx, hy⟩
theorem cSides_hp {f : FuncId} {p : Bool → Bool → Bool} {x y : List Int} : (cSides f p).hp [.view (x.map Cel.c), .view (y.map Cel.c), pkF] (pk0 f) = pkH f (picks p (setL x) (setL y)) := by
  have e : ∀ l : List Int, (l.map Cel.c).map (Cel.u (α := Int) []) = l := fun l => by
    rw [List.map_map]; exact map_self fun x _ => Cel.u_c [] x
  simp only [cSides, e]
theorem det_pick (f : FuncId) (p : Bool → Bool → Bool) (hf : Known Try.prog f (C2 (fun o t : Bool => True) fun o t => .bool (p o t))) (a b : List Int) (ha : a.length ≤ 536870911) (hb : b.length ≤ 536870911) :
    Det Try.prog 204 [en a, en b, .fn f [] []] [] (en (picks p (setL a) (setL b))) [] := by
  refine det_finF mixed0 (knows_cons (known_sides f p hf) knows_nil) ok_idset_pick 2 (by simp) ?_
  have h1 := cSides_pre (f := f) (p := p) ha hb
  have h2 := cSides_hp (f := f) (p := p) (x := a) (y := b)
  unfold pkF pk0 at h1 h2
  simp [ic_idset_pick, rs_idset_pick, h1, h2]
  simp [pkH]
def cPickF (f : FuncId) (p : Bool → Bool → Bool) : Ctr := V3 (fun (a b : List Int) (q : FnC f) => a.length ≤ 536870911 ∧ b.length ≤ 536870911) fun a b q => en (picks p (setL a) (setL b))
theorem known_pick (f : FuncId) (p : Bool → Bool → Bool) (hf : Known Try.prog f (C2 (fun o t : Bool => True) fun o t => .bool (p o t))) : Known Try.prog 204 (cPickF f p) := known_V3 (fun a b q h => det_pick f p hf a b h.1 h.2) fun a b q h => closed_en _
theorem det_Less_1 (o t : Bool) : Det Try.prog 205 [en o, en t] [] (.bool (o && !t)) [] := by
  refine det_finF mixed0 knows_nil ok_idset_Less_1 1 (by simp) ?_
  cases o <;> simp [ic_idset_Less_1, rs_idset_Less_1]
def cIdOps (F : List Int → List Int → List Int) : Ctr := V2 (fun (a b : List Int) => a.length ≤ 536870911 ∧ b.length ≤ 536870911) fun a b => en (F a b)
theorem det_idset_Less (a b : List Int) (ha : a.length ≤ 536870911) (hb : b.length ≤ 536870911) : Det Try.prog 191 [en a, en b] [] (en (lessL a b)) [] := by
  refine det_finF mixed0 (knows_cons (known_pick _ _ (known_C2 (fun o t _ => det_Less_1 o t) fun o t => flat_bool _)) knows_nil) ok_idset_Less 2 (by simp) ?_
  simp [ic_idset_Less, rs_idset_Less, cPickF, ha, hb, lessL]
theorem known_IdLess : Known Try.prog 191 (cIdOps lessL) := known_V2 (fun a b h => det_idset_Less a b h.1 h.2) fun a b h => closed_en _
def inL (a b : List Int) : Bool := decide ((lessL a b).length = 0)
theorem det_idset_Within (a b : List Int) (ha : a.length ≤ 536870911) (hb : b.length ≤ 536870911) : Det Try.prog 135 [en a, en b] [] (.bool (inL a b)) [] := by
  refine det_finF mixed0 (knows_cons known_IdLess knows_nil) ok_idset_Within 1 (by simp) ?_
  simp [ic_idset_Within, rs_idset_Within, cIdOps, ha, hb, inL]
def cIdWithin : Ctr := C2 (fun (a b : List Int) => a.length ≤ 536870911 ∧ b.length ≤ 536870911) fun a b => .bool (inL a b)
theorem known_IdWithin : Known Try.prog 135 cIdWithin := known_C2 (fun a b h => det_idset_Within a b h.1 h.2) fun a b => flat_bool _
theorem inL_iff {a b : List Int} : inL a b = true ↔ ∀ x ∈ a, x ∈ b := by
  rw [inL, decide_eq_true_eq, List.length_eq_zero_iff, lessL_nil]
end Go.Proofs.Ytfjidignjjaihaa.Sx
