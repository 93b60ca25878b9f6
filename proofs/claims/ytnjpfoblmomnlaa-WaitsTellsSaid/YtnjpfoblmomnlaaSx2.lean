/- The small language that the seat's Go functions are brought into, and what must be shown of a function's code ('vc'): definitions alone. No conditions: a kit of our own. -/
import Derived.Test.YtnjpfoblmomnlaaSx1
import Derived.Laws.ComplexArith
import Derived.Laws.Cover2
namespace Go.Proofs.Ytnjpfoblmomnlaa.Sx
open Go Go.RowKit
set_option linter.unusedVariables false
set_option linter.unusedSimpArgs false

inductive Opd where
  | t (n : Nat)
  /-- A slot that a guarded operation wrote whose condition holds. -/
  | o (n : Nat)
  | c (v : AV)

inductive NilK where
  | p
  | s
  | m
  | f

/-- Operations on values that have no place: conversions, complex numbers. -/
inductive Prim where
  | i2f
  | f2i
  | cplx
  | re
  | im
  | cadd
  | csub
  | cmul
  /-- An element of an array that is a value. -/
  | idx (g : Option Nat) (n sz : Nat)
def rdv (g : Option Nat) (row : List AV) (off : Nat) : Option AV :=
  match g with
  | none => row[off]?
  | some n => if off + n ≤ row.length then some (.agg ((row.drop off).take n)) else none
theorem exI : ∃ f : Int → Nat, ∀ n, f n = floatOfInt .f64 n := ⟨_, fun _ => rfl⟩
theorem exT : ∃ f : Nat → Option Int, ∀ b, f b = floatToIntVal .f64 b .i64 := ⟨_, fun _ => rfl⟩
theorem exA : ∃ f : Nat → Nat → Nat → Nat → Option (Nat × Nat), ∀ a b c d, f a b c d = cSumBits .add .f64 a b c d := ⟨_, fun _ _ _ _ => rfl⟩
theorem exS : ∃ f : Nat → Nat → Nat → Nat → Option (Nat × Nat), ∀ a b c d, f a b c d = cSumBits .sub .f64 a b c d := ⟨_, fun _ _ _ _ => rfl⟩
theorem exM : ∃ f : Nat → Nat → Nat → Nat → Option (Nat × Nat), ∀ a b c d, f a b c d = cMulBits a b c d := ⟨_, fun _ _ _ _ => rfl⟩
/-- What floats are, without their bits: nothing unfolds these. -/ noncomputable def fI : Int → Nat := Classical.choose exI
/-- .. -/ noncomputable def fT : Nat → Option Int := Classical.choose exT
/-- .. -/ noncomputable def fA : Nat → Nat → Nat → Nat → Option (Nat × Nat) := Classical.choose exA
/-- .. -/ noncomputable def fS : Nat → Nat → Nat → Nat → Option (Nat × Nat) := Classical.choose exS
/-- .. -/ noncomputable def fM : Nat → Nat → Nat → Nat → Option (Nat × Nat) := Classical.choose exM
theorem fI_eq : ∀ n, fI n = floatOfInt .f64 n := Classical.choose_spec exI
theorem fT_eq : ∀ b, fT b = floatToIntVal .f64 b .i64 := Classical.choose_spec exT
theorem fA_eq : ∀ a b c d, fA a b c d = cSumBits .add .f64 a b c d := Classical.choose_spec exA
theorem fS_eq : ∀ a b c d, fS a b c d = cSumBits .sub .f64 a b c d := Classical.choose_spec exS
theorem fM_eq : ∀ a b c d, fM a b c d = cMulBits a b c d := Classical.choose_spec exM
/-- What such a one gives, if anything. -/ noncomputable def primV : Prim → List AV → Option AV
  | .i2f, [.int _ n] => some (.val (.float .f64 (fI n)))
  | .f2i, [.val (.float .f64 b)] => (fT b).map fun n => .int .i64 n
  | .cplx, [.val (.float .f64 a), .val (.float .f64 b)] => some (.val (.complex .f64 a b))
  | .re, [.val (.complex .f64 a _)] => some (.val (.float .f64 a))
  | .im, [.val (.complex .f64 _ b)] => some (.val (.float .f64 b))
  | .cadd, [.val (.complex .f64 a b), .val (.complex .f64 c d)] => (fA a b c d).map fun r => .val (.complex .f64 r.1 r.2)
  | .csub, [.val (.complex .f64 a b), .val (.complex .f64 c d)] => (fS a b c d).map fun r => .val (.complex .f64 r.1 r.2)
  | .cmul, [.val (.complex .f64 a b), .val (.complex .f64 c d)] => (fM a b c d).map fun r => .val (.complex .f64 r.1 r.2)
  | .idx g n sz, [.agg cs, .int _ i] => if 0 ≤ i ∧ i < n then rdv g cs (i.toNat * sz) else none
  | _, _ => none
inductive IOp where
  | mv (x : Opd)
  | pick (c a b : Opd)
  | alloc (zero : List AV)
  | box (x : Opd)
  | build (zero : List AV) (parts : List (Nat × Nat × Opd))
  | rowOwn (sz : Nat) (parts : List Opd)
  | rowView (sz : Nat) (parts : List Opd)
  | ld (g : Option Nat) (d : List AV) (x : Opd)
  | st (n : Nat) (x v : Opd)
  | nilc (x : Opd)
  | fa (off : Nat) (x : Opd)
  | fld (g : Option Nat) (off : Nat) (x : Opd)
  | ia (sz : Nat) (d : List AV) (x i : Opd)
  | iaa (len sz : Nat) (x i : Opd)
  | bin (op : BinOp) (x y : Opd)
  | binw (op : BinOp) (x y : Opd)
  | eqb (neg : Bool) (x y : Opd)
  | eqc (neg : Bool) (ks : List Bool) (x y : Opd)
  | eqnil (neg : Bool) (kd : NilK) (x : Opd)
  | not (x : Opd)
  | neg (x : Opd)
  | cvi (k : IntKind) (x : Opd)
  | cvw (k : IntKind) (x : Opd)
  | ext (i : Nat) (x : Opd)
  | mkfn (f : FuncId) (first caps : List Opd)
  | call (f : Opd) (args : List Opd)
  | app (sz : Nat) (d s : Opd)
  | mkslice (sz : Nat) (zero : List AV) (l c : Opd)
  | slc (sz : Nat) (x : Opd) (lo hi : Option Opd)
  | slc3 (sz : Nat) (x hi mx : Opd)
  | clr (sz : Nat) (z : List AV) (x : Opd)
  | strb (x : Opd)
  | eqs (neg : Bool) (x y : Opd)
  | len (x : Opd)
  | lenm (x : Opd)
  | mkmap
  | look (zero : AV) (ok : Bool) (m key : Opd)
  | mapup (m key v : Opd)
  | del (m key : Opd)
  | mn (xs : List Opd)
  | mx (xs : List Opd)
  | prim (p : Prim) (xs : List Opd)

structure IOper where
  dst : Option Nat
  op : IOp
  guard : Option (Nat × Bool)
  /-- A guarded operation: no parting of cases. -/
  soft : Bool
  /-- In a region whose order is open: it isn't ordered against what writes. -/
  loose : Bool
  /-- Slots that nobody reads any more. -/
  dead : List Nat

def undefAV : AV := .opt false .any
def numOfCell : List AV → Int
  | .int _ n :: _ => n
  | _ => 0
def cellsL : AV → List AV
  | .agg cs => cs
  | v => [v]

/-- A function with a body. -/
def callable (P : Program) (f : FuncId) : Bool := match P.funcs[f]? with
  | some fn => !(fn.name == "runtime.NumGoroutine") && fn.body.isSome
  | none => false
/-- The call of a Go function, from a heap of one's own on: it returns, and of what it returns and leaves R is so. -/
def ACall (P : Program) (f : FuncId) (args : List AV) (H : List AObj) (R : AV → List AObj → Prop) : Prop :=
  callable P f = true ∧ ∀ E vs, HRel E H → VRels E args vs → Calls P f vs.toArray E.w fun e w' => ∃ v E' r H', e = .returned v ∧ E'.w = w' ∧ VRel E' r v ∧ HRel E' H' ∧ Ext H.length E E' ∧ R r H'

/-- A number fits into its kind. -/
def fits (k : IntKind) (n : Int) : Prop := k.wrap n = n

def rd (g : Option Nat) (row : List AV) (off : Nat) (k : AV → Prop) : Prop :=
  match g with
  | none => match row[off]? with | some v => k v | none => False
  | some n => off + n ≤ row.length ∧ k (.agg ((row.drop off).take n))
def over (row : List AV) (off : Nat) (cs : List AV) : List AV := row.take off ++ cs ++ row.drop (off + cs.length)

def abin (op : BinOp) (x y : AV) (k : AV → Prop) : Prop :=
  match x, y with
  | .int a m, .int b n =>
    match op with
    | .add => a = b ∧ fits a (m + n) ∧ k (.int a (m + n))
    | .sub => a = b ∧ fits a (m - n) ∧ k (.int a (m - n))
    | .mul => a = b ∧ fits a (m * n) ∧ k (.int a (m * n))
    | .quo => a = b ∧ n ≠ 0 ∧ fits a (m.tdiv n) ∧ k (.int a (m.tdiv n))
    | .rem => a = b ∧ n ≠ 0 ∧ k (.int a (m.tmod n))
    | .eql => a = b ∧ k (.bool (decide (m = n)))
    | .neq => a = b ∧ k (.bool (!decide (m = n)))
    | .lss => a = b ∧ k (.bool (decide (m < n)))
    | .leq => a = b ∧ k (.bool (decide (m ≤ n)))
    | .gtr => a = b ∧ k (.bool (decide (n < m)))
    | .geq => a = b ∧ k (.bool (decide (n ≤ m)))
    | _ => False
  | _, _ => False
/-- The same with Go's wrap; bits; shifts. -/
def abinw (op : BinOp) (x y : AV) (k : AV → Prop) : Prop :=
  match x, y with
  | .int a m, .int b n =>
    match op with
    | .add => a = b ∧ k (.int a (a.wrap (m + n)))
    | .sub => a = b ∧ k (.int a (a.wrap (m - n)))
    | .mul => a = b ∧ k (.int a (a.wrap (m * n)))
    | .and => a = b ∧ k (.int a (a.wrap (BitVec.ofInt a.bits m &&& BitVec.ofInt a.bits n).toNat))
    | .or => a = b ∧ k (.int a (a.wrap (BitVec.ofInt a.bits m ||| BitVec.ofInt a.bits n).toNat))
    | .xor => a = b ∧ k (.int a (a.wrap (BitVec.ofInt a.bits m ^^^ BitVec.ofInt a.bits n).toNat))
    | .andNot => a = b ∧ k (.int a (a.wrap (BitVec.ofInt a.bits m &&& ~~~BitVec.ofInt a.bits n).toNat))
    | .shl => 0 ≤ n ∧ k (.int a (a.wrap (m * 2 ^ (min n.toNat a.bits))))
    | .shr => 0 ≤ n ∧ k (.int a (m.fdiv (2 ^ (min n.toNat a.bits))))
    | _ => False
  | _, _ => False

/-- Two rows of plain cells, one by one; ks: bools (true), or numbers. -/
def eqCells : List Bool → List AV → List AV → (Bool → Prop) → Prop
  | [], [], [], k => k true
  | false :: ks, .int a m :: as, .int b n :: bs, k => a = b ∧ eqCells ks as bs fun r => k (decide (m = n) && r)
  | true :: ks, .bool p :: as, .bool q :: bs, k => eqCells ks as bs fun r => k ((p == q) && r)
  | _, _, _, _ => False

/-- What a slice's elements are. -/
def srcRows (H : List AObj) (x : AV) (k : List (List AV) → Prop) : Prop :=
  match x with
  | .nils => k []
  | .view es => k es
  | .cv es => k es
  | .sl id r len => match H[id]? with
    | some (.rows _ rs) => r + len ≤ rs.length ∧ k ((rs.drop r).take len)
    | _ => False
  | _ => False

def alook (es : List (Int × AV)) (n : Int) : Option AV := (es.find? fun x => x.1 == n).map (·.2)
def aput : List (Int × AV) → Int → AV → List (Int × AV)
  | [], n, v => [(n, v)]
  | x :: es, n, v => if x.1 = n then (n, v) :: es else x :: aput es n v
def adel : List (Int × AV) → Int → List (Int × AV)
  | [], _ => []
  | x :: es, n => if x.1 = n then es else x :: adel es n

def fill1 (cells : List AV) : List (Nat × Nat × AV) → (List AV → Prop) → Prop
  | [], k => k cells
  | (off, size, v) :: rest, k => (cellsL v).length = size ∧ (cellsL v).all AV.plain = true ∧ off + size ≤ cells.length ∧ fill1 (over cells off (cellsL v)) rest k

/-- A bool, or what a guarded operation left of one. -/
def bval : AV → Bool
  | .bool b => b
  | .opt _ (.bool b) => b
  | _ => false
def isB : AV → Prop
  | .bool _ => True
  | .opt c (.bool _) => c = true
  | _ => False

def loAV (r : Opd → AV) : Option Opd → AV
  | some l => r l
  | none => .int .i64 0
def mostRows : Nat := 1073741824

/-- What an operation makes of values and heap, where that is one thing. -/
def dop (P : Program) (io : IOp) (r : Opd → AV) (H : List AObj) (k : AV → List AObj → Prop) : Prop :=
  match io with
  | .mv x => k (r x) H
  | .pick c a b => match r c with
    | .bool p => (p = true → isB (r a)) ∧ (p = false → isB (r b)) ∧ k (.bool (bif p then bval (r a) else bval (r b))) H
    | _ => False
  | .alloc z => k (.ptr H.length 0 0) (H ++ [.rows z.length [z]])
  | .box x => (cellsL (r x)).all AV.plain = true ∧ k (.ptr H.length 0 0) (H ++ [.rows (cellsL (r x)).length [cellsL (r x)]])
  | .build z ps => fill1 z (ps.map fun p => (p.1, p.2.1, r p.2.2)) fun cs => k (.agg cs) H
  | .rowOwn sz ps => (∀ x ∈ ps.map fun p => cellsL (r p), x.length = sz ∧ x.all AV.plain = true) ∧ k (.sl H.length 0 ps.length) (H ++ [.rows sz (ps.map fun p => cellsL (r p))])
  | .rowView sz ps => (∀ x ∈ ps.map fun p => cellsL (r p), x.length = sz ∧ x.all AV.plain = true) ∧ k (.view (ps.map fun p => cellsL (r p))) H
  | .ld g _ x => match r x with
    | .ptr id i off => match H[id]? with
      | some (.rows _ rs) => match rs[i]? with
        | some row => rd g row off fun v => k v H
        | none => False
      | _ => False
    | .vp row off => rd g row off fun v => k v H
    | _ => False
  | .st n x v => match r x with
    | .ptr id i off => match H[id]? with
      | some (.rows sz rs) => match rs[i]? with
        | some row => (cellsL (r v)).length = n ∧ (cellsL (r v)).all AV.plain = true ∧ off + n ≤ row.length ∧ k .any (H.set id (.rows sz (rs.set i (over row off (cellsL (r v))))))
        | none => False
      | _ => False
    | _ => False
  | .nilc x => match r x with
    | .ptr id i off => (∃ o, H[id]? = some o ∧ o ≠ .dead) ∧ k (.ptr id i off) H
    | .vp row off => k (.vp row off) H
    | .fn f a b => k (.fn f a b) H
    | _ => False
  | .fa o x => match r x with
    | .ptr id i off => (∃ o, H[id]? = some o ∧ o ≠ .dead) ∧ k (.ptr id i (off + o)) H
    | .vp row off => k (.vp row (off + o)) H
    | _ => False
  | .fld g off x => match r x with
    | .agg cs => rd g cs off fun v => k v H
    | _ => False
  | .ia sz _ x i => match r x, r i with
    | .sl id r0 len, .int _ n => match H[id]? with
      | some (.rows sz' _) => sz' = sz ∧ 0 ≤ n ∧ n < len ∧ k (.ptr id (r0 + n.toNat) 0) H
      | _ => False
    | .view es, .int _ n => 0 ≤ n ∧ match es[n.toNat]? with
      | some row => row.length = sz ∧ k (.vp row 0) H
      | none => False
    | _, _ => False
  | .iaa len sz x i => match r x, r i with
    | .ptr id j off, .int _ n => (∃ o, H[id]? = some o ∧ o ≠ .dead) ∧ 0 ≤ n ∧ n < len ∧ k (.ptr id j (off + n.toNat * sz)) H
    | .vp row off, .int _ n => 0 ≤ n ∧ n < len ∧ k (.vp row (off + n.toNat * sz)) H
    | _, _ => False
  | .bin op x y => abin op (r x) (r y) fun v => k v H
  | .binw op x y => abinw op (r x) (r y) fun v => k v H
  | .eqb neg x y => match r x, r y with
    | .bool p, .bool q => k (.bool (if neg then p != q else p == q)) H
    | _, _ => False
  | .eqc neg ks x y => match r x, r y with
    | .agg a, .agg b => eqCells ks a b fun t => k (.bool (if neg then !t else t)) H
    | _, _ => False
  | .eqnil neg kd x => match kd, r x with
    | .p, .nilp | .s, .nils | .m, .nilm | .f, .val .nilFunc => k (.bool (!neg)) H
    | .p, .ptr id _ _ => (∃ o, H[id]? = some o ∧ o ≠ .dead) ∧ k (.bool neg) H
    | .s, .sl id _ _ => (∃ o, H[id]? = some o ∧ o ≠ .dead) ∧ k (.bool neg) H
    | .m, .map id => (∃ o, H[id]? = some o ∧ o ≠ .dead) ∧ k (.bool neg) H
    | .p, .vp _ _ | .f, .fn _ _ _ => k (.bool neg) H
    | .s, .view es => es ≠ [] ∧ k (.bool neg) H
    | _, _ => False
  | .not x => match r x with
    | .bool b => k (.bool (!b)) H
    | _ => False
  | .neg x => match r x with
    | .int a m => fits a (0 - m) ∧ k (.int a (0 - m)) H
    | _ => False
  | .cvi a x => match r x with
    | .int _ m => fits a m ∧ k (.int a m) H
    | _ => False
  | .cvw a x => match r x with
    | .int _ m => k (.int a (a.wrap m)) H
    | _ => False
  | .ext i x => match r x with
    | .tup vs => match vs[i]? with
      | some v => k v H
      | none => False
    | _ => False
  | .mkfn f first caps => k (.fn f (first.map r) (caps.map r)) H
  | .call f args => match r f with
    | .fn g caps free => ∃ x H', ACall P g (caps ++ args.map r ++ free) H (fun y h => y = x ∧ h = H') ∧ k x H'
    | _ => False
  | .app sz d s => srcRows H (r s) fun src => (∀ x ∈ src, x.length = sz) ∧ match r d with
    | .nils => src.length ≤ mostRows ∧ k (bs H.length src) (H ++ [bob sz src])
    | .sl id r0 len => match H[id]? with
      | some (.rows sz' rs) => sz' = sz ∧ r0 + len = rs.length ∧ len + src.length ≤ mostRows ∧ k (.sl H.length 0 (len + src.length)) (H.set id .dead ++ [.rows sz (rs.drop r0 ++ src)])
      | _ => False
    | .cv es => src ≠ [] ∧ (∀ x ∈ es, x.length = sz) ∧ es.length + src.length ≤ mostRows ∧ k (.sl H.length 0 (es.length + src.length)) (H ++ [.rows sz (es ++ src)])
    | _ => False
  | .mkslice sz z l c => match r l, r c with
    | .int _ m, .int _ n => 0 ≤ m ∧ m ≤ n ∧ n ≤ mostRows ∧ k (.sl H.length 0 m.toNat) (H ++ [.rows sz (List.replicate m.toNat z)])
    | _, _ => False
  | .slc sz x lo hi => match r x, loAV r lo with
    | .nils, .int _ m => m = 0 ∧ (match hi with | some h => (match r h with | .int _ n => n = 0 | _ => False) | none => True) ∧ k .nils H
    | .view es, .int _ m => (∀ y ∈ es, y.length = sz) ∧ match hi with
      | none => 0 ≤ m ∧ m ≤ es.length ∧ k (.view (es.drop m.toNat)) H
      | some h => match r h with
        | .int _ n => 0 ≤ m ∧ m ≤ n ∧ n ≤ es.length ∧ k (.view ((es.drop m.toNat).take (n.toNat - m.toNat))) H
        | _ => False
    | .sl id r0 len, .int _ m => match H[id]? with
      | some (.rows sz' _) => match hi with
        | none => sz' = sz ∧ 0 ≤ m ∧ m ≤ len ∧ k (.sl id (r0 + m.toNat) (len - m.toNat)) H
        | some h => match r h with
          | .int _ n => sz' = sz ∧ 0 ≤ m ∧ m ≤ n ∧ n ≤ len ∧ k (.sl id (r0 + m.toNat) (n.toNat - m.toNat)) H
          | _ => False
      | _ => False
    | _, _ => False
  | .slc3 sz x hi mx => match r hi, r mx with
    | .int _ m, .int _ n => m = n ∧ 0 ≤ m ∧ (match r x with
      | .nils => m = 0 ∧ k .nils H
      | .view es => (∀ y ∈ es, y.length = sz) ∧ m ≤ es.length ∧ k (.cv (es.take m.toNat)) H
      | .cv es => (∀ y ∈ es, y.length = sz) ∧ m ≤ es.length ∧ k (.cv (es.take m.toNat)) H
      | .sl id r0 len => (match H[id]? with
        | some (.rows sz' _) => sz' = sz ∧ m ≤ len ∧ k (.sl id r0 m.toNat) H
        | _ => False)
      | _ => False)
    | _, _ => False
  | .clr sz z x => match r x with
    | .nils => k (.tup []) H
    | .view es => es = [] ∧ k (.tup []) H
    | .sl id r0 len => match H[id]? with
      | some (.rows sz' rs) => sz' = sz ∧ z.length = sz ∧ r0 + len ≤ rs.length ∧ k (.tup []) (H.set id (.rows sz (rs.take r0 ++ List.replicate len z ++ rs.drop (r0 + len))))
      | _ => False
    | _ => False
  | .strb x => srcRows H (r x) fun rows => (∀ y ∈ rows, ∃ n, y = [.int .u8 n]) ∧ k (.str (strOfNums (rows.map fun y => numOfCell y))) H
  | .eqs neg x y => match r x, r y with
    | .str s, .str t => k (.bool (if neg then !(s.toList == t.toList) else s.toList == t.toList)) H
    | _, _ => False
  | .len x => match r x with
    | .nils => k (.int .i64 0) H
    | .view es => k (.int .i64 es.length) H
    | .cv es => k (.int .i64 es.length) H
    | .sl id _ len => (∃ o, H[id]? = some o ∧ o ≠ .dead) ∧ k (.int .i64 len) H
    | _ => False
  | .lenm x => match r x with
    | .nilm => k (.int .i64 0) H
    | .map id => match H[id]? with
      | some (.imap es) => k (.int .i64 es.length) H
      | _ => False
    | _ => False
  | .mkmap => k (.map H.length) (H ++ [.imap []])
  | .look z ok m key => match r key with
    | .int .i64 n => match r m with
      | .nilm => k (if ok then .tup [z, .bool false] else z) H
      | .map id => match H[id]? with
        | some (.imap es) => (∀ v, alook es n = some v → k (if ok then .tup [v, .bool true] else v) H) ∧ (alook es n = none → k (if ok then .tup [z, .bool false] else z) H)
        | _ => False
      | _ => False
    | _ => False
  | .mapup m key v => match r m, r key with
    | .map id, .int .i64 n => match H[id]? with
      | some (.imap es) => k .any (H.set id (.imap (aput es n (r v))))
      | _ => False
    | _, _ => False
  | .del m key => match r m, r key with
    | .map id, .int .i64 n => match H[id]? with
      | some (.imap es) => k (.tup []) (H.set id (.imap (adel es n)))
      | _ => False
    | _, _ => False
  | .mn xs => match xs.map r with
    | [.int a m, .int b n] => a = b ∧ k (.int a (if n < m then n else m)) H
    | _ => False
  | .mx xs => match xs.map r with
    | [.int a m, .int b n] => a = b ∧ k (.int a (if m < n then n else m)) H
    | _ => False
  | .prim p xs => match primV p (xs.map r) with
    | some v => k v H
    | none => False

end Go.Proofs.Ytnjpfoblmomnlaa.Sx
