/- States of the small language; what must be shown of regions and of code ('vc'); regions in the order of the text. No conditions: a kit of our own. -/
import Derived.Test.YtnjpfoblmomnlaaSx14
namespace Go.Proofs.Ytnjpfoblmomnlaa.Sx
open Go Go.RowKit
set_option linter.unusedVariables false
set_option linter.unusedSimpArgs false

inductive ICode where
  | skip
  | ops (id : Nat) (draw : Bool) (l : List IOper)
  | seq (a b : ICode)
  | cond (x : Opd) (a b : ICode)
  | block (id : Nat) (c : ICode)
  | loop (keep : List Nat) (c : ICode)
  | exit (id : Nat)
  | scope (c : ICode)
  /-- A scope of code ahead of a label, which later code jumps back to. -/
  | back (keep : List Nat) (pre : ICode) (l : Nat) (rest : ICode)
  | label (l : Nat)
  | goto (l : Nat)
  | ret
  /-- Code behind which the ways come together. -/
  | join (keep : List Nat) (c : ICode)
  /-- A loop through a map (what is ahead; the slots of the map, the iterator, its step, whether there was one, its entry, key and element, the variables; what the heads keep; the body's block and the loop's). -/
  | mrange (l : List IOper) (r it nx q en e0 e1 k v : Nat) (keep : List Nat) (b1 b0 : Nat) (c : ICode)

/-- A state: what is known of the slots, rising; the heap of one's own. -/
structure AS where
  tm : List (Nat × AV)
  hp : List AObj

def look1 : List (Nat × AV) → Nat → AV
  | [], _ => .any
  | (k, v) :: l, n => if k = n then v else look1 l n
def ins : List (Nat × AV) → Nat → AV → List (Nat × AV)
  | [], d, x => [(d, x)]
  | (k, v) :: l, d, x => if d < k then (d, x) :: (k, v) :: l else if d = k then (d, x) :: l else (k, v) :: ins l d x
def wipe : List (Nat × AV) → List Nat → List (Nat × AV)
  | [], _ => []
  | (k, v) :: l, ks => if ks.contains k = true then wipe l ks else (k, v) :: wipe l ks
def only : List (Nat × AV) → List Nat → List (Nat × AV)
  | [], _ => []
  | (k, v) :: l, ks => if ks.contains k = true then (k, v) :: only l ks else only l ks
def put1 (tm : List (Nat × AV)) : Option Nat → AV → List (Nat × AV)
  | some d, x => ins tm d x
  | none, _ => tm
def upd (tm : List (Nat × AV)) (dst : Option Nat) (x : AV) (dead : List Nat) : List (Nat × AV) := wipe (put1 tm dst x) dead

def AV.res : AV → AV
  | .opt c v => if c = true then v else .any
  | v => v
def AV.strip : AV → AV
  | .opt _ v => v
  | v => v
def AS.ev (s : AS) : Opd → AV
  | .t n => look1 s.tm n
  | .o n => (look1 s.tm n).res
  | .c v => v
def AS.evs (s : AS) : Opd → AV
  | .t n => look1 s.tm n
  | .o n => (look1 s.tm n).strip
  | .c v => v

/-- The operands of an operation. -/
def opds : IOp → List Opd
  | .mv x | .box x | .nilc x | .not x | .neg x | .len x | .lenm x => [x]
  | .pick c a b => [c, a, b]
  | .alloc _ | .mkmap => []
  | .build _ ps => ps.map (·.2.2)
  | .rowOwn _ ps | .rowView _ ps => ps
  | .ld _ _ x => [x]
  | .st _ x v => [x, v]
  | .fa _ x => [x]
  | .fld _ _ x => [x]
  | .ia _ _ x i => [x, i]
  | .iaa _ _ x i => [x, i]
  | .bin _ x y | .binw _ x y => [x, y]
  | .eqb _ x y | .eqc _ _ x y => [x, y]
  | .eqnil _ _ x => [x]
  | .slc3 _ x hi mx => [x, hi, mx]
  | .clr _ _ x => [x]
  | .strb x => [x]
  | .eqs _ x y => [x, y]
  | .cvi _ x | .cvw _ x | .ext _ x => [x]
  | .mkfn _ a b => a ++ b
  | .call f l => f :: l
  | .app _ d s => [d, s]
  | .mkslice _ _ l c => [l, c]
  | .slc _ x lo hi => x :: (lo.toList ++ hi.toList)
  | .look _ _ m k => [m, k]
  | .mapup m k v => [m, k, v]
  | .del m k => [m, k]
  | .mn xs | .mx xs => xs
  | .prim _ xs => xs
def oOk (s : AS) : Opd → Prop
  | .o n => (match look1 s.tm n with | .opt c _ => c = true | _ => True)
  | _ => True
def allOk (s : AS) : List Opd → Prop
  | [] => True
  | x :: l => oOk s x ∧ allOk s l
theorem allOk_mem {s : AS} : ∀ {l : List Opd}, allOk s l → ∀ {x : Opd}, x ∈ l → oOk s x
  | y :: l, h, x, hx => by
    rcases List.mem_cons.1 hx with rfl | hx
    · exact h.1
    · exact allOk_mem h.2 hx
theorem ev_evs {s : AS} {x : Opd} (h : oOk s x) : s.ev x = s.evs x := by
  cases x with
  | o n =>
    simp only [AS.ev, AS.evs]
    unfold oOk at h
    cases hl : look1 s.tm n <;> simp only [hl] at h <;> first | rfl | (simp only [AV.res, AV.strip, h, if_true])
  | _ => rfl
theorem op_congr (Γ : FuncId → Ctr) (io : IOp) {r r' : Opd → AV} (H : List AObj) (h : ∀ x ∈ opds io, r x = r' x) : dpre Γ io r H = dpre Γ io r' H ∧ dval Γ io r H = dval Γ io r' H ∧ dhp Γ io r H = dhp Γ io r' H := by
  cases io
  case build z ps =>
    have e : (ps.map fun p => (p.1, p.2.1, r p.2.2)) = ps.map fun p => (p.1, p.2.1, r' p.2.2) := List.map_congr_left fun p hp => by rw [h p.2.2 (List.mem_map.2 ⟨p, hp, rfl⟩)]
    simp only [dpre, dval, dhp, e, and_self]
  case rowOwn z ps =>
    have e : (ps.map fun p => cellsL (r p)) = ps.map fun p => cellsL (r' p) := List.map_congr_left fun p hp => by rw [h p hp]
    simp only [dpre, dval, dhp, e, and_self]
  case rowView z ps =>
    have e : (ps.map fun p => cellsL (r p)) = ps.map fun p => cellsL (r' p) := List.map_congr_left fun p hp => by rw [h p hp]
    simp only [dpre, dval, dhp, e, and_self]
  case mkfn f a b =>
    have e : a.map r = a.map r' := List.map_congr_left fun p hp => h p (List.mem_append.2 (.inl hp))
    have e' : b.map r = b.map r' := List.map_congr_left fun p hp => h p (List.mem_append.2 (.inr hp))
    simp only [dpre, dval, dhp, e, e', and_self]
  case call f l =>
    have e : l.map r = l.map r' := List.map_congr_left fun p hp => h p (List.mem_cons_of_mem _ hp)
    have e' := h f (by simp [opds])
    simp only [dpre, dval, dhp, e, e', and_self]
  case mn l =>
    have e : l.map r = l.map r' := List.map_congr_left fun p hp => h p hp
    simp only [dpre, dval, dhp, e, and_self]
  case mx l =>
    have e : l.map r = l.map r' := List.map_congr_left fun p hp => h p hp
    simp only [dpre, dval, dhp, e, and_self]
  case prim q l =>
    have e : l.map r = l.map r' := List.map_congr_left fun p hp => h p hp
    simp only [dpre, dval, dhp, e, and_self]
  case slc sz x lo hi =>
    have e := h x (by simp [opds])
    have e1 : loIs r lo = loIs r' lo ∧ loOf r lo = loOf r' lo := by
      cases lo with
      | none => exact ⟨rfl, rfl⟩
      | some l => have := h l (by simp [opds]); simp only [loIs, loOf, this, and_self]
    have e2 : loIs r hi = loIs r' hi ∧ loOf r hi = loOf r' hi := by
      cases hi with
      | none => exact ⟨rfl, rfl⟩
      | some l => have := h l (by simp [opds]); simp only [loIs, loOf, this, and_self]
    cases hi with
    | none => simp only [dpre, dval, dhp, e, e1, e2, and_self]
    | some l => have e3 := h l (by simp [opds]); simp only [dpre, dval, dhp, e, e1, e2, e3, and_self]
  all_goals
    simp only [opds, List.mem_cons, List.not_mem_nil, or_false, forall_eq_or_imp, forall_eq] at h
    simp only [dpre, dval, dhp, h, and_self]

def gok : AV → Prop
  | .bool _ => True
  | .opt _ (.bool _) => True
  | _ => False
def gb : AV → Bool → Bool
  | .bool b, w => b == w
  | .opt c (.bool b), w => c && (b == w)
  | _, _ => false
/-- Behind a parting of cases a guard's slot is known. -/
def gset (tm : List (Nat × AV)) (t : Nat) (b : Bool) : List (Nat × AV) := match look1 tm t with
  | .bool _ => ins tm t (.bool b)
  | _ => tm

section
variable (Γ : FuncId → Ctr)

def preS0 (o : IOper) (s : AS) (h : List AObj) : Prop := match o.guard with
  | none => dpre Γ o.op s.ev h
  | some (t, w) => gok (look1 s.tm t) ∧ (gb (look1 s.tm t) w = true → dpre Γ o.op s.ev h ∧ dval Γ o.op s.ev h = dval Γ o.op s.evs h ∧ dhp Γ o.op s.ev h = h)
/-- The same, told so that no 'if' is left: the guarded slots that are read have their conditions. -/
def preS (o : IOper) (s : AS) (h : List AObj) : Prop := match o.guard with
  | none => dpre Γ o.op s.ev h
  | some (t, w) => gok (look1 s.tm t) ∧ (gb (look1 s.tm t) w = true → allOk s (opds o.op) ∧ dpre Γ o.op s.evs h ∧ dhp Γ o.op s.evs h = h)
theorem preS_old {o : IOper} {s : AS} {h : List AObj} (hp : preS Γ o s h) : preS0 Γ o s h := by
  unfold preS at hp
  unfold preS0
  cases e : o.guard with
  | none => rw [e] at hp; exact hp
  | some tw =>
    obtain ⟨t, w⟩ := tw
    rw [e] at hp
    refine ⟨hp.1, fun hg => ?_⟩
    obtain ⟨h1, h2, h3⟩ := hp.2 hg
    obtain ⟨e1, e2, e3⟩ := op_congr Γ o.op (r := s.ev) (r' := s.evs) h fun x hx => ev_evs (allOk_mem h1 hx)
    exact ⟨e1.symm ▸ h2, e2, e3.trans h3⟩
/-- .. -/ noncomputable def valS (o : IOper) (s : AS) (h : List AObj) : AV := match o.guard with
  | none => dval Γ o.op s.ev h
  | some (t, w) => .opt (gb (look1 s.tm t) w) (dval Γ o.op s.evs h)
def hpS (o : IOper) (s : AS) (h : List AObj) : List AObj := match o.guard with
  | none => dhp Γ o.op s.ev h
  | some _ => h
/-- .. -/ noncomputable def stp (o : IOper) (s : AS) : AS := ⟨upd s.tm o.dst (valS Γ o s s.hp) o.dead, hpS Γ o s s.hp⟩

/-- Whether a slice is nil, where that isn't known. -/
def isNilU : IOp → Option (Bool × Opd)
  | .eqnil neg .s x => some (neg, x)
  | _ => none

/-- The operations of a region, in the order of the text. -/
def vcOps : List IOper → (AS → Prop) → AS → Prop
  | [], K, s => K s
  | o :: l, K, s => match o.guard, o.soft with
    | some (t, w), false => gok (look1 s.tm t) ∧
        (gb (look1 s.tm t) w = true → dpre Γ o.op (AS.ev ⟨gset s.tm t w, s.hp⟩) s.hp ∧ vcOps l K ⟨upd (gset s.tm t w) o.dst (dval Γ o.op (AS.ev ⟨gset s.tm t w, s.hp⟩) s.hp) o.dead, dhp Γ o.op (AS.ev ⟨gset s.tm t w, s.hp⟩) s.hp⟩) ∧
        (gb (look1 s.tm t) w = false → vcOps l K ⟨upd (gset s.tm t !w) o.dst undefAV o.dead, s.hp⟩)
    | none, true => match isNilU o.op with
      | some (neg, x) => match s.ev x with
        | .view es => ∀ b, (es ≠ [] → b = neg) → vcOps l K ⟨upd s.tm o.dst (.bool b) o.dead, s.hp⟩
        | _ => dpre Γ o.op s.ev s.hp ∧ vcOps l K (stp Γ o s)
      | none => preS Γ o s s.hp ∧ vcOps l K (stp Γ o s)
    | _, _ => preS Γ o s s.hp ∧ vcOps l K (stp Γ o s)

def eff : IOp → Bool
  | .st .. | .clr .. | .app .. | .mapup .. | .del .. | .alloc .. | .box .. | .rowOwn .. | .mkslice .. | .mkmap => true
  | _ => false
def isCallO : IOp → Bool
  | .call .. => true
  | _ => false
/-- Whether it counts as one that may change memory: a call where it is marked ('soft', without a guard). -/
def effO (o : IOper) : Bool := eff o.op || (o.soft && o.guard.isNone && isCallO o.op)
def heapFree : IOp → Bool
  | .mv .. | .pick .. | .eqs .. | .fld .. | .bin .. | .binw .. | .eqb .. | .eqc .. | .not .. | .neg .. | .cvi .. | .cvw .. | .ext .. | .build .. | .mkfn .. | .mn .. | .mx .. | .rowView .. | .prim .. => true
  | _ => false

/-- A region whose order is open: the run in the order of the text .. -/
def vcChain : List IOper → (AS → Prop) → AS → Prop
  | [], K, s => K s
  | o :: l, K, s => preS Γ o s s.hp ∧ (effO o = false → hpS Γ o s s.hp = s.hp) ∧ vcChain l K (stp Γ o s)
/-- .. -/ noncomputable def heapsOf : List IOper → AS → List (List AObj)
  | [], s => [s.hp]
  | o :: l, s => s.hp :: heapsOf l (stp Γ o s)
def slotO : Opd → List Nat
  | .t n | .o n => [n]
  | _ => []
def depO (D : List Nat) (o : IOper) : Bool := ((opds o.op).flatMap slotO).any D.contains || (match o.guard with
  | some (t, _) => D.contains t
  | none => false)
/-- How many operations may come ahead of one which gives D: till one which changes memory hangs on it. -/
def cut : List Nat → List IOper → Nat
  | _, [] => 0
  | D, o :: l => if depO D o then (if effO o then 0 else cut (D ++ o.dst.toList) l + 1) else cut D l + 1
/-- .. and what isn't ordered gives the same at each heap of that run where it may be. -/
def vcLoose (hs : List (List AObj)) : Nat → List IOper → AS → Prop
  | _, [], _ => True
  | k, o :: l, s => (o.loose = true → ∀ h ∈ hs.take (k + cut o.dst.toList l + 2), preS Γ o s h ∧ valS Γ o s h = valS Γ o s s.hp ∧ hpS Γ o s h = h) ∧ vcLoose hs (k + 1) l (stp Γ o s)
def vcOpsD (l : List IOper) (K : AS → Prop) (s : AS) : Prop := vcChain Γ l K s ∧ (l.any (·.loose) = true → vcLoose Γ (heapsOf Γ l s) 0 l s)
end

def thn (K : AS → Prop) (Q : Exit → AS → Prop) : Exit → AS → Prop
  | .normal, s => K s
  | e, s => Q e s
def blk (id : Nat) (Q : Exit → AS → Prop) : Exit → AS → Prop
  | .exit id', s => if id' = id then Q .normal s else Q (.exit id') s
  | e, s => Q e s
def noGo (Q : Exit → AS → Prop) : Exit → AS → Prop
  | .goto _, _ => False
  | e, s => Q e s
def jmp (l : Nat) (J : AS → Prop) (Q : Exit → AS → Prop) : Exit → AS → Prop
  | .goto l', s => l' = l ∧ J s
  | e, s => Q e s

/-- A state says what a frame and a world are. -/
structure SRel (nt : Nat) (E : Env) (s : AS) (a : Act) : Prop where
  defers : a.defers = []
  len : a.tmps.size = nt
  tm : ∀ i, VRel E (look1 s.tm i) (a.tmps.getD i undef)
  hp : HRel E s.hp

/-- Less may be told: names may be struck or named anew, rows may be called nobody's own; the first m names stay. -/
def Weak (m : Nat) (s s' : AS) : Prop := ∀ nt E a, SRel nt E s a → m ≤ E.n → ∃ E', E'.w = E.w ∧ SRel nt E' s' a ∧ Ext m E E'
/-- At a loop's head, by a number that falls. -/
def again (m : Nat) (I : Nat → AS → Prop) (keep : List Nat) (n : Nat) (s : AS) : Prop := ∃ n' s', n' < n ∧ Weak m ⟨only s.tm keep, s.hp⟩ s' ∧ I n' s'
def first (m : Nat) (I : Nat → AS → Prop) (keep : List Nat) (s : AS) : Prop := ∃ n s', Weak m ⟨only s.tm keep, s.hp⟩ s' ∧ I n s'

def Looped (m : Nat) (keep : List Nat) (body : (Exit → AS → Prop) → AS → Prop) (Q : Exit → AS → Prop) (s : AS) : Prop :=
  ∃ I : Nat → AS → Prop, first m I keep s ∧ ∀ n s', I n s' → body (thn (again m I keep n) Q) s'
def Backed (m : Nat) (keep : List Nat) (l : Nat) (pre rest : (Exit → AS → Prop) → AS → Prop) (Q : Exit → AS → Prop) (s : AS) : Prop :=
  ∃ I : Nat → AS → Prop, pre (thn (first m I keep) (noGo Q)) s ∧ ∀ n s', I n s' → rest (jmp l (again m I keep n) Q) s'
def Joined (keep : List Nat) (c : (Exit → AS → Prop) → AS → Prop) (Q : Exit → AS → Prop) (s : AS) : Prop :=
  ∃ J : AS → Prop, c (thn (fun s' => J ⟨only s'.tm keep, s'.hp⟩) Q) s ∧ ∀ s', J s' → Q .normal s'

/-- A round of a loop through a map that has ended: the map is as it was. -/
def mend (m mid : Nat) (es : List (Int × AV)) (R : Env → Loc → Prop) (keep : List Nat) (J : AS → Prop) (Q : Exit → AS → Prop) : Exit → AS → Prop
  | .normal, s => ∃ s', Weak m ⟨only s.tm keep, s.hp⟩ s' ∧ J s'
  | e, s => s.hp[mid]? = some (.thing es R) ∧ Q e ⟨s.tm, s.hp.set mid (.imap es)⟩
/-- A loop through a map whose entries may come in any order; none of its rounds touches the map. -/
def Ranged (m mid : Nat) (es : List (Int × AV)) (it k v : Nat) (keep : List Nat) (b1 b0 : Nat) (body : (Exit → AS → Prop) → AS → Prop) (Q : Exit → AS → Prop) (s : AS) : Prop :=
  (es.map (·.1)).Nodup ∧ ∀ (pv : Value) (R : Env → Loc → Prop), ∃ I : List Int → AS → Prop,
    (∃ s', Weak m ⟨ins (only s.tm keep) it (.val pv), s.hp.set mid (.thing es R)⟩ s' ∧ I [] s') ∧
    ∀ done s', I done s' → (look1 s'.tm it = .val pv ∧ s'.hp[mid]? = some (.thing es R)) ∧
      (∀ x ∈ es, x.1 ∉ done → body (blk b1 (mend m mid es R (it :: keep) (I (done ++ [x.1])) (blk b0 Q))) ⟨ins (ins (only s'.tm (it :: keep)) k (.int .i64 x.1)) v x.2, s'.hp⟩) ∧
      ((∀ x ∈ es, x.1 ∈ done) → Q .normal ⟨only s'.tm (it :: keep), s'.hp.set mid (.imap es)⟩)

/-- What must be shown of code. -/
def vc (Γ : FuncId → Ctr) (m : Nat) : ICode → (Exit → AS → Prop) → AS → Prop
  | .skip, Q, s => Q .normal s
  | .ops _ draw l, Q, s => if draw then vcOpsD Γ l (Q .normal) s else vcOps Γ l (Q .normal) s
  | .seq a b, Q, s => vc Γ m a (thn (vc Γ m b Q) Q) s
  | .cond x a b, Q, s => match s.ev x with
    | .bool t => (t = true → vc Γ m a Q s) ∧ (t = false → vc Γ m b Q s)
    | _ => False
  | .block id c, Q, s => vc Γ m c (blk id Q) s
  | .loop keep c, Q, s => Looped m keep (vc Γ m c) Q s
  | .exit id, Q, s => Q (.exit id) s
  | .scope c, Q, s => vc Γ m c (noGo Q) s
  | .back keep pre l rest, Q, s => Backed m keep l (vc Γ m pre) (vc Γ m rest) Q s
  | .label _, Q, s => Q .normal s
  | .goto l, Q, s => Q (.goto l) s
  | .ret, Q, s => Q .ret s
  | .join keep c, Q, s => Joined keep (vc Γ m c) Q s
  | .mrange l r it nx q en e0 e1 k v keep b1 b0 c, Q, s => vcOps Γ l (fun s1 => ∃ mid es, look1 s1.tm r = .map mid ∧ s1.hp[mid]? = some (.imap es) ∧ Ranged s1.hp.length mid es it k v keep b1 b0 (vc Γ s1.hp.length c) Q s1) s

/-- Where a function's result lies. -/
inductive IRes where
  | t (n : Nat)
  | cell (n : Nat) (g : Option Nat)
def resp (s : AS) : List IRes → Prop
  | [] => True
  | .t n :: l => resp s l
  | .cell n g :: l => (match look1 s.tm n with
    | .ptr id i off => isRows s.hp id ∧ i < (rowsOf s.hp id).length ∧ rdp g (nth (rowsOf s.hp id) i []) off
    | _ => False) ∧ resp s l
def resv (s : AS) : List IRes → List AV
  | [] => []
  | .t n :: l => look1 s.tm n :: resv s l
  | .cell n g :: l => (match look1 s.tm n with
    | .ptr id i off => rdd g (nth (rowsOf s.hp id) i []) off
    | _ => .any) :: resv s l
def one : List AV → AV
  | [v] => v
  | vs => .tup vs
/-- Of a result and a heap less may be told. -/
def WeakR (m : Nat) (x : AV) (H : List AObj) (x' : AV) (H' : List AObj) : Prop := ∀ E v, VRel E x v → HRel E H → m ≤ E.n → ∃ E', E'.w = E.w ∧ VRel E' x' v ∧ HRel E' H' ∧ Ext m E E'
/-- The function's end. -/
def fin (m : Nat) (rs : List IRes) (R : AV → List AObj → Prop) : Exit → AS → Prop
  | .normal, s | .ret, s => resp s rs ∧ ∃ x H, WeakR m (one (resv s rs)) s.hp x H ∧ R x H
  | _, _ => False

/-! ### soundness: regions in the order of the text -/

theorem look1_ins (l : List (Nat × AV)) (d : Nat) (x : AV) (i : Nat) : look1 (ins l d x) i = if d = i then x else look1 l i := by
  induction l with
  | nil => simp [ins, look1]
  | cons p l ih =>
    obtain ⟨k, v⟩ := p
    simp only [ins]
    by_cases h1 : d < k
    · simp [h1, look1]
    · by_cases h2 : d = k
      · subst h2
        simp only [Nat.lt_irrefl, if_false, if_true, look1]
        by_cases h3 : d = i <;> simp [h3]
      · simp only [h1, h2, if_false, look1, ih]
        by_cases h3 : k = i
        · subst h3; simp [h2]
        · simp [h3]
theorem look1_wipe (l : List (Nat × AV)) (ks : List Nat) (i : Nat) : look1 (wipe l ks) i = if ks.contains i = true then .any else look1 l i := by
  induction l with
  | nil => simp [wipe, look1]
  | cons p l ih =>
    obtain ⟨k, v⟩ := p
    simp only [wipe, look1]
    by_cases h : ks.contains k = true
    · rw [if_pos h, ih]
      by_cases h3 : k = i
      · subst h3; simp only [h, if_true, if_false, Bool.false_eq_true]; try simp
      · simp [h3]
    · rw [if_neg h]
      simp only [look1, ih]
      by_cases h3 : k = i
      · subst h3; simp only [h, if_true, if_false, Bool.false_eq_true]; try simp
      · simp [h3]
theorem look1_only (l : List (Nat × AV)) (ks : List Nat) (i : Nat) : look1 (only l ks) i = if ks.contains i = true then look1 l i else .any := by
  induction l with
  | nil => simp [only, look1]
  | cons p l ih =>
    obtain ⟨k, v⟩ := p
    simp only [only, look1]
    by_cases h : ks.contains k = true
    · rw [if_pos h]
      simp only [look1, ih]
      by_cases h3 : k = i
      · subst h3; simp only [h, if_true, if_false, Bool.false_eq_true]; try simp
      · simp [h3]
    · rw [if_neg h, ih]
      by_cases h3 : k = i
      · subst h3; simp only [h, if_true, if_false, Bool.false_eq_true]; try simp
      · simp [h3]
theorem look1_put1 (tm : List (Nat × AV)) (d : Option Nat) (x : AV) (i : Nat) : look1 (put1 tm d x) i = if d = some i then x else look1 tm i := by
  cases d with
  | none => simp [put1]
  | some d => simp [put1, look1_ins]

theorem VRel.res {E : Env} {x : AV} {v : Value} (h : VRel E x v) : VRel E x.res v := by
  cases x <;> first | exact h | skip
  simp only [AV.res]
  cases h with
  | opt h h' =>
    split
    · rename_i hc; exact h hc
    · exact .any _

def okOper (P : Program) (ops : Array Oper) (nt : Nat) (o : Oper) (io : IOper) : Bool :=
  (o.dst == io.dst) && (match io.dst with | some d => decide (d < nt) | none => true) && okOp P o io.op && (match o.guard, io.guard with
    | none, none => true
    | some (j, w), some (t, w') => w == w' && ((ops[j]?).bind (·.dst)) == some t
    | _, _ => false)

section
variable {P : Program} {Γ : FuncId → Ctr} {nt : Nat}

theorem SRel.ev {E : Env} {s : AS} {a : Act} (h : SRel nt E s a) {x : Operand} {y : Opd} (hy : opdOk x y = true) : VRel E (s.ev y) (a.eval x) := by
  unfold opdOk at hy
  split at hy
  · rename_i t n
    simp at hy
    subst hy
    exact h.tm t
  · rename_i t n
    simp at hy
    subst hy
    exact (h.tm t).res
  · exact .const hy
  · simp at hy
    subst hy
    exact .fn (vs := []) (ws := []) rfl rfl (fun i a v h => by simp at h) (fun i a v h => by simp at h)
  · cases hy
theorem SRel.ops {E : Env} {s : AS} {a : Act} (h : SRel nt E s a) (o : Oper) : OpsRel E s.ev a o := ⟨fun x y _ hy => h.ev hy⟩

theorem getD_put {a : Act} {d : Option Nat} {v : Value} (hd : ∀ t, d = some t → t < a.tmps.size) (i : Nat) : (a.put d v).tmps.getD i undef = if d = some i then v else a.tmps.getD i undef := by
  cases d with
  | none => simp [Act.put]
  | some d =>
    have := hd d rfl
    simp only [Act.put, Option.some.injEq, Array.getD_eq_getD_getElem?]
    by_cases h : d = i
    · subst h
      rw [Array.getElem?_setIfInBounds_self_of_lt this]
      simp
    · rw [Array.getElem?_setIfInBounds_ne h]
      simp [h]

theorem SRel.put {E E' : Env} {s : AS} {a : Act} (h : SRel nt E s a) (x : Ext E.n E E') {H : List AObj} (hH : HRel E' H) {v : Value} {y : AV} (hv : VRel E' y v) {d : Option Nat} (hd : ∀ t, d = some t → t < nt) (dead : List Nat) : SRel nt E' ⟨upd s.tm d y dead, H⟩ (a.put d v) := by
  refine ⟨by cases d <;> exact h.defers, by cases d <;> simp [Act.put, h.len], fun i => ?_, hH⟩
  rw [getD_put (by rw [h.len]; exact hd)]
  simp only [upd, look1_wipe, look1_put1]
  split
  · exact .any _
  · split
    · exact hv
    · exact (h.tm i).ext (Nat.le_refl _) x
theorem SRel.mono {E : Env} {s : AS} {a : Act} (h : SRel nt E s a) {tm : List (Nat × AV)} (ht : ∀ i, VRel E (look1 tm i) (a.tmps.getD i undef)) : SRel nt E ⟨tm, s.hp⟩ a := ⟨h.defers, h.len, ht, h.hp⟩
theorem SRel.only {E : Env} {s : AS} {a : Act} (h : SRel nt E s a) (ks : List Nat) : SRel nt E ⟨Sx.only s.tm ks, s.hp⟩ a := h.mono fun i => by
  rw [look1_only]
  split
  · exact h.tm i
  · exact .any _

theorem VRel.gb {E : Env} {x : AV} {v : Value} (h : VRel E x v) (hg : gok x) (w : Bool) : (gb x w = true → v = .bool w) ∧ (gb x w = false → v ≠ .bool w) := by
  cases x <;> simp only [gok] at hg
  · cases h
    simp only [Sx.gb]
    constructor
    · intro h; simp at h; rw [h]
    · intro h; simp at h; intro e; simp at e; exact h e
  · rename_i c y
    cases y <;> simp only at hg
    rename_i b
    cases h with
    | opt h h' =>
      simp only [Sx.gb]
      cases c
      · rw [h' rfl]; simp [undef]
      · cases h rfl
        constructor
        · intro h; simp at h; rw [h]
        · intro h; simp at h; intro e; simp at e; exact h e

theorem wanted_gb {ops : Array Oper} {o : Oper} {a : Act} {j t : Nat} {w : Bool} {E : Env} {x : AV} (hg : o.guard = some (j, w)) (hj : (ops[j]?).bind (·.dst) = some t) (hx : VRel E x (a.tmps.getD t undef)) (hk : gok x) :
    Region.wanted o (yielded ops a.tmps) = Sx.gb x w := by
  have key := hx.gb hk w
  simp only [Region.wanted, hg, yielded, hj, Option.bind_some]
  cases ht : a.tmps[t]? with
  | none =>
    have e : a.tmps.getD t undef = undef := by simp [Array.getD_eq_getD_getElem?, ht]
    rw [e] at key
    cases hb : Sx.gb x w
    · rfl
    · have := key.1 hb; simp [undef] at this
  | some v =>
    have e : a.tmps.getD t undef = v := by simp [Array.getD_eq_getD_getElem?, ht]
    rw [e] at key
    cases hb : Sx.gb x w
    · have := key.2 hb
      cases v <;> simp
      rename_i b
      intro e; subst e; exact this rfl
    · rw [key.1 hb]; simp

theorem gset_rel {E : Env} {s : AS} {a : Act} (h : SRel nt E s a) {t : Nat} {w : Bool} (hv : ∀ b, look1 s.tm t = .bool b → a.tmps.getD t undef = .bool w) : SRel nt E ⟨gset s.tm t w, s.hp⟩ a := by
  refine h.mono fun i => ?_
  unfold gset
  split
  · rename_i b hb
    rw [look1_ins]
    split
    · rename_i hti; subst hti; rw [hv b hb]; exact .bool _
    · exact h.tm i
  · exact h.tm i

theorem okOper_dst {ops : Array Oper} {o : Oper} {io : IOper} (h : okOper P ops nt o io = true) : o.dst = io.dst ∧ (∀ t, io.dst = some t → t < nt) ∧ okOp P o io.op = true := by
  simp only [okOper, Bool.and_eq_true, beq_iff_eq] at h
  refine ⟨h.1.1.1, fun t ht => ?_, h.1.2⟩
  have := h.1.1.2
  rw [ht] at this
  simpa using this

theorem eqnilU_sound {o : Oper} {io : IOp} {r : Opd → AV} {H : List AObj} {neg : Bool} {x : Opd} {K : AV → List AObj → Prop} (hok : okOp P o io = true) (hn : isNilU io = some (neg, x)) (hx : r x = .view []) (hK : ∀ b, K (.bool b) H) : OpOk P o r H K := by
  unfold isNilU at hn
  split at hn
  · rename_i neg' x'
    cases hn
    simp only [okOp] at hok
    split at hok
    · rename_i op t x y u ho
      simp only [Bool.and_eq_true] at hok
      obtain ⟨⟨⟨h1, h2⟩, h3⟩, h4⟩ := hok
      have := isEq_spec h1
      subst this
      exact run_eqnil0 ho h2 h3 h4 hx hK
    · cases hok
  · cases hn

theorem ops_soundT (hG : Knows P Γ) {ops : Array Oper} {m : Nat} {Q : Exit → Act → World → Prop} {tail : List Oper} : ∀ (l : List Oper) (il : List IOper), all2 (okOper P ops nt) l il = true → ∀ (K : AS → Prop) (E0 E : Env) (s : AS) (a : Act), vcOps Γ il K s → SRel nt E s a → Ext m E0 E →
    (∀ E' s' a', SRel nt E' s' a' → Ext m E0 E' → K s' → wpList P ops Q tail a' E'.w) → wpList P ops Q (l ++ tail) a E.w
  | [], [], _, K, E0, E, s, a, h, hs, hx, hQ => hQ E s a hs hx h
  | o :: l, io :: il, hok, K, E0, E, s, a, h, hs, hx, hQ => by
    simp only [all2, Bool.and_eq_true] at hok
    obtain ⟨ho, hrest⟩ := hok
    obtain ⟨hd, hlt, hop⟩ := okOper_dst ho
    have hm : m ≤ E.n := hx.m
    -- an operation that is run
    have run : ∀ (s1 : AS) (KK : AV → List AObj → Prop), SRel nt E s1 a → OpOk P o s1.ev s1.hp KK → (∀ x H', KK x H' → ∃ x', (∀ E v, VRel E x v → VRel E x' v) ∧ vcOps Γ il K ⟨upd s1.tm io.dst x' io.dead, H'⟩) → o.wp P a E.w (wpList P ops Q (l ++ tail)) Q := fun s1 KK hs1 hk hv =>
      hk E a _ Q (hs1.ops o) hs1.hp fun v E' x H' h1 h2 h3 h4 => by
        obtain ⟨x', hx', hv⟩ := hv x H' h4
        rw [hd]
        exact ops_soundT hG l il hrest K E0 E' _ _ hv (hs1.put h3 h2 (hx' _ _ h1) hlt io.dead) (hx.trans (h3.mono hm)) hQ
    have pass : ∀ (s1 : AS), SRel nt E s1 a → vcOps Γ il K ⟨upd s1.tm io.dst undefAV io.dead, s1.hp⟩ → wpList P ops Q (l ++ tail) (a.put o.dst undef) E.w := fun s1 hs1 hv => by
      rw [hd]
      exact ops_soundT hG l il hrest K E0 E _ _ hv (hs1.put (Ext.refl (Nat.le_refl _)) hs1.hp (.opt (fun h => by cases h) (fun _ => rfl)) hlt io.dead) hx hQ
    -- no parting of cases
    have soft : preS0 Γ io s s.hp → vcOps Γ il K (stp Γ io s) → wpList P ops Q (o :: (l ++ tail)) a E.w := fun h1 h2 => by
      unfold wpList
      have hg := ho
      simp only [okOper, Bool.and_eq_true] at hg
      have hg := hg.2
      split at hg
      · rename_i hg1 hg2
        rw [if_pos (by simp [Region.wanted, hg1])]
        simp only [preS0, hg2] at h1
        simp only [stp, valS, hpS, hg2] at h2
        exact .inl (run s _ hs (dfun_sound hG hop h1) fun x H' ⟨e1, e2⟩ => ⟨x, fun _ _ h => h, by rw [e1, e2]; exact h2⟩)
      · rename_i j w t w' hg1 hg2
        simp only [Bool.and_eq_true, beq_iff_eq] at hg
        obtain ⟨rfl, hj⟩ := hg
        simp only [preS0, hg2] at h1
        simp only [stp, valS, hpS, hg2] at h2
        obtain ⟨h3, h4⟩ := h1
        have hw := wanted_gb hg1 hj (hs.tm t) h3
        cases hb : gb (look1 s.tm t) w
        · rw [if_neg (by rw [hw, hb]; simp)]
          rw [hb] at h2
          rw [hd]
          exact ops_soundT hG l il hrest K E0 E _ _ h2 (hs.put (Ext.refl (Nat.le_refl _)) hs.hp (.opt (fun h => by cases h) (fun _ => rfl)) hlt io.dead) hx hQ
        · rw [if_pos (by rw [hw, hb])]
          rw [hb] at h2
          obtain ⟨h5, h6, h7⟩ := h4 hb
          exact .inl (run s _ hs (dfun_sound hG hop h5) fun x H' ⟨e1, e2⟩ => ⟨.opt true (dval Γ io.op s.evs s.hp), fun E v h => .opt (fun _ => by rw [← h6, ← e1]; exact h) (fun h => by cases h), by rw [e2, h7]; exact h2⟩)
      · cases hg
    show wpList P ops Q (o :: (l ++ tail)) a E.w
    unfold vcOps at h
    split at h
    · rename_i t w hg2 hsf
      obtain ⟨h3, h4, h5⟩ := h
      unfold wpList
      have hg := ho
      simp only [okOper, Bool.and_eq_true, hg2] at hg
      have hg := hg.2
      split at hg
      · rename_i hh; cases hh
      · rename_i j w1 t1 w1' hg1 hh
        cases hh
        simp only [Bool.and_eq_true, beq_iff_eq] at hg
        obtain ⟨rfl, hj⟩ := hg
        have hw := wanted_gb hg1 hj (hs.tm t) h3
        have hv := (hs.tm t).gb h3 w1
        cases hb : gb (look1 s.tm t) w1
        · rw [if_neg (by rw [hw, hb]; simp)]
          refine pass _ (gset_rel hs fun b e => ?_) (h5 hb)
          have := hs.tm t
          rw [e] at this
          rw [this.bool_inv]
          rw [e] at hb
          simp only [gb, beq_eq_false_iff_ne, ne_eq] at hb
          cases b <;> cases w1 <;> simp_all
        · rw [if_pos (by rw [hw, hb])]
          obtain ⟨h6, h7⟩ := h4 hb
          exact .inl (run ⟨gset s.tm t w1, s.hp⟩ _ (gset_rel hs fun b e => hv.1 hb) (dfun_sound hG hop h6) fun x H' ⟨e1, e2⟩ => ⟨x, fun _ _ h => h, by rw [e1, e2]; exact h7⟩)
      · cases hg
    · rename_i hg2 hsf
      have free : ∀ KK : AV → List AObj → Prop, OpOk P o s.ev s.hp KK → (∀ x H', KK x H' → vcOps Γ il K ⟨upd s.tm io.dst x io.dead, H'⟩) → wpList P ops Q (o :: (l ++ tail)) a E.w := fun KK hk hv => by
        unfold wpList
        have hg := ho
        simp only [okOper, Bool.and_eq_true, hg2] at hg
        have hg := hg.2
        split at hg
        · rename_i hg1 _
          rw [if_pos (by simp [Region.wanted, hg1])]
          exact .inl (run s KK hs hk fun x H' hk => ⟨x, fun _ _ h => h, hv x H' hk⟩)
        · rename_i hh; cases hh
        · cases hg
      split at h
      · rename_i neg x hn
        split at h
        · rename_i es hxv
          by_cases hne : es = []
          · subst hne
            exact free (fun y h' => (∃ b, y = .bool b) ∧ h' = s.hp) (eqnilU_sound hop hn hxv fun b => ⟨⟨b, rfl⟩, rfl⟩) fun y h' ⟨⟨b, e⟩, e2⟩ => by rw [e, e2]; exact h b fun hh => absurd rfl hh
          · have hpre : dpre Γ io.op s.ev s.hp ∧ dval Γ io.op s.ev s.hp = .bool neg ∧ dhp Γ io.op s.ev s.hp = s.hp := by
              unfold isNilU at hn
              split at hn
              · rename_i neg' x' hio
                cases hn
                rw [hio]
                simp only [dpre, dval, dhp, hxv]
                exact ⟨hne, trivial, trivial⟩
              · cases hn
            exact free _ (dfun_sound hG hop hpre.1) fun y h' ⟨e1, e2⟩ => by rw [e1, e2, hpre.2.1, hpre.2.2]; exact h neg fun _ => rfl
        · exact soft (by simp only [preS0, hg2]; exact h.1) h.2
      · exact soft (preS_old Γ h.1) h.2
    · exact soft (preS_old Γ h.1) h.2
  | [], _ :: _, h, _, _, _, _, _, _, _, _, _ => by simp [all2] at h
  | _ :: _, [], h, _, _, _, _, _, _, _, _, _ => by simp [all2] at h
theorem ops_sound (hG : Knows P Γ) {ops : Array Oper} {m : Nat} {Q : Exit → Act → World → Prop} (l : List Oper) (il : List IOper) (hok : all2 (okOper P ops nt) l il = true) (K : AS → Prop) (E0 E : Env) (s : AS) (a : Act) (h : vcOps Γ il K s) (hs : SRel nt E s a) (hx : Ext m E0 E)
    (hQ : ∀ E' s' a', SRel nt E' s' a' → Ext m E0 E' → K s' → Q .normal a' E'.w) : wpList P ops Q l a E.w := by
  have := ops_soundT (tail := []) hG l il hok K E0 E s a h hs hx hQ
  rwa [List.append_nil] at this
end
end Go.Proofs.Ytnjpfoblmomnlaa.Sx
