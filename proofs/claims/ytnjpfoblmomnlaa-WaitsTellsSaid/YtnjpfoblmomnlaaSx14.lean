/- What an operation of the small language needs, gives, and leaves, as functions; what must be shown of a function's code ('vc'): definitions, and the bridge to 'dop'. No conditions: a kit of our own. -/
import Derived.Test.YtnjpfoblmomnlaaSx13
namespace Go.Proofs.Ytnjpfoblmomnlaa.Sx
open Go Go.RowKit
set_option linter.unusedVariables false
set_option linter.unusedSimpArgs false

/-- What is known of a function: when it may be called, what it gives, and the heap that it leaves. -/
structure Ctr where
  pre : List AV → List AObj → Prop
  val : List AV → List AObj → AV
  hp : List AV → List AObj → List AObj
def Det (P : Program) (f : FuncId) (args : List AV) (H : List AObj) (x : AV) (H' : List AObj) : Prop := ACall P f args H fun y h => y = x ∧ h = H'
def Knows (P : Program) (Γ : FuncId → Ctr) : Prop := ∀ f args H, (Γ f).pre args H → Det P f args H ((Γ f).val args H) ((Γ f).hp args H)

/-- The n-th of a list, or d. -/
def nth {α : Type} (l : List α) (n : Nat) (d : α) : α := l.getD n d
def rdd (g : Option Nat) (row : List AV) (off : Nat) : AV := match g with
  | none => nth row off .any
  | some n => .agg ((row.drop off).take n)
def rdp (g : Option Nat) (row : List AV) (off : Nat) : Prop := match g with
  | none => off < row.length
  | some n => off + n ≤ row.length
def isRowsO : Option AObj → Prop | some (.rows _ _) => True | _ => False
def rowsO : Option AObj → List (List AV) | some (.rows _ rs) => rs | _ => []
def szO : Option AObj → Nat | some (.rows sz _) => sz | _ => 0
def liveO : Option AObj → Prop | some .dead => False | some _ => True | none => False
def isRows (H : List AObj) (id : Nat) : Prop := isRowsO H[id]?
def rowsOf (H : List AObj) (id : Nat) : List (List AV) := rowsO H[id]?
def szOf (H : List AObj) (id : Nat) : Nat := szO H[id]?
def isMap (H : List AObj) (id : Nat) : Prop := match H[id]? with | some (.imap _) => True | _ => False
def mapOf (H : List AObj) (id : Nat) : List (Int × AV) := match H[id]? with | some (.imap es) => es | _ => []
def live (H : List AObj) (id : Nat) : Prop := liveO H[id]?
def numOf : AV → Int
  | .int _ n => n
  | _ => 0
def isNum : AV → Prop
  | .int _ _ => True
  | _ => False

def binp (op : BinOp) (x y : AV) : Prop :=
  match x, y with
  | .int a m, .int b n => a = b ∧ (match op with
    | .add => fits a (m + n)
    | .sub => fits a (m - n)
    | .mul => fits a (m * n)
    | .quo => n ≠ 0 ∧ fits a (m.tdiv n)
    | .rem => n ≠ 0
    | .eql | .neq | .lss | .leq | .gtr | .geq => True
    | _ => False)
  | _, _ => False
def binv (op : BinOp) (x y : AV) : AV :=
  match x, y with
  | .int a m, .int b n => (match op with
    | .add => .int a (m + n)
    | .sub => .int a (m - n)
    | .mul => .int a (m * n)
    | .quo => .int a (m.tdiv n)
    | .rem => .int a (m.tmod n)
    | .eql => .bool (decide (m = n))
    | .neq => .bool (!decide (m = n))
    | .lss => .bool (decide (m < n))
    | .leq => .bool (decide (m ≤ n))
    | .gtr => .bool (decide (n < m))
    | .geq => .bool (decide (n ≤ m))
    | _ => .any)
  | _, _ => .any
def binwp (op : BinOp) (x y : AV) : Prop :=
  match x, y with
  | .int a m, .int b n => (match op with
    | .add | .sub | .mul | .and | .or | .xor | .andNot => a = b
    | .shl | .shr => 0 ≤ n
    | _ => False)
  | _, _ => False
def binwv (op : BinOp) (x y : AV) : AV :=
  match x, y with
  | .int a m, .int b n => (match op with
    | .add => .int a (a.wrap (m + n))
    | .sub => .int a (a.wrap (m - n))
    | .mul => .int a (a.wrap (m * n))
    | .and => .int a (a.wrap (BitVec.ofInt a.bits m &&& BitVec.ofInt a.bits n).toNat)
    | .or => .int a (a.wrap (BitVec.ofInt a.bits m ||| BitVec.ofInt a.bits n).toNat)
    | .xor => .int a (a.wrap (BitVec.ofInt a.bits m ^^^ BitVec.ofInt a.bits n).toNat)
    | .andNot => .int a (a.wrap (BitVec.ofInt a.bits m &&& ~~~BitVec.ofInt a.bits n).toNat)
    | .shl => .int a (a.wrap (m * 2 ^ (min n.toNat a.bits)))
    | .shr => .int a (m.fdiv (2 ^ (min n.toNat a.bits)))
    | _ => .any)
  | _, _ => .any
def eqv : List Bool → List AV → List AV → Bool
  | [], [], [] => true
  | false :: ks, .int _ m :: as, .int _ n :: bs => decide (m = n) && eqv ks as bs
  | true :: ks, .bool p :: as, .bool q :: bs => (p == q) && eqv ks as bs
  | _, _, _ => false
def eqp : List Bool → List AV → List AV → Prop
  | [], [], [] => True
  | false :: ks, .int a _ :: as, .int b _ :: bs => a = b ∧ eqp ks as bs
  | true :: ks, .bool _ :: as, .bool _ :: bs => eqp ks as bs
  | _, _, _ => False
theorem eqCells_of : ∀ {ks : List Bool} {a b : List AV} {k : Bool → Prop}, eqp ks a b → k (eqv ks a b) → eqCells ks a b k
  | [], [], [], k, _, h => by simpa [eqCells, eqv] using h
  | false :: ks, .int a m :: as, .int b n :: bs, k, hp, h => by
    simp only [eqp] at hp
    simp only [eqCells]
    exact ⟨hp.1, eqCells_of hp.2 (by simpa [eqv] using h)⟩
  | true :: ks, .bool p :: as, .bool q :: bs, k, hp, h => by
    simp only [eqp] at hp
    simp only [eqCells]
    exact eqCells_of hp (by simpa [eqv] using h)
  | [], [], _ :: _, k, hp, h => by simp [eqp] at hp
  | [], _ :: _, _, k, hp, h => by simp [eqp] at hp
  | c :: ks, a, b, k, hp, h => by
    unfold eqp at hp
    split at hp <;> first | (exact hp.elim) | (rename_i heq; cases heq; done) | skip
    · rename_i heq; cases heq
      simp only [eqCells]
      exact ⟨hp.1, eqCells_of hp.2 (by simpa [eqv] using h)⟩
    · rename_i heq; cases heq
      simp only [eqCells]
      exact eqCells_of hp (by simpa [eqv] using h)

def srcp (H : List AObj) (x : AV) : Prop := match x with
  | .nils | .view _ | .cv _ => True
  | .sl id r len => isRows H id ∧ r + len ≤ (rowsOf H id).length
  | _ => False
def srcv (H : List AObj) (x : AV) : List (List AV) := match x with
  | .view es | .cv es => es
  | .sl id r len => ((rowsOf H id).drop r).take len
  | _ => []
def loOf (r : Opd → AV) : Option Opd → Int
  | some l => numOf (r l)
  | none => 0
def loIs (r : Opd → AV) : Option Opd → Prop
  | some l => isNum (r l)
  | none => True

/-- An append's parts, a length's, and those of an element's place. -/
def appP (x : AV) (H : List AObj) (sz : Nat) (src : List (List AV)) : Prop := match x with
  | .nils => src.length ≤ mostRows
  | .sl id r0 len => isRows H id ∧ szOf H id = sz ∧ r0 + len = (rowsOf H id).length ∧ len + src.length ≤ mostRows
  | .cv es => src ≠ [] ∧ (∀ x ∈ es, x.length = sz) ∧ es.length + src.length ≤ mostRows
  | _ => False
def appV (x : AV) (H : List AObj) (src : List (List AV)) : AV := match x with
  | .sl _ _ len => .sl H.length 0 (len + src.length)
  | .cv es => .sl H.length 0 (es.length + src.length)
  | _ => bs H.length src
def appH (x : AV) (H : List AObj) (sz : Nat) (src : List (List AV)) : List AObj := match x with
  | .sl id r0 len => H.set id .dead ++ [.rows sz ((rowsOf H id).drop r0 ++ src)]
  | .cv es => H ++ [.rows sz (es ++ src)]
  | _ => H ++ [bob sz src]
def lenP (x : AV) (H : List AObj) : Prop := match x with
  | .nils | .view _ | .cv _ => True
  | .sl id _ _ => live H id
  | _ => False
def lenV : AV → AV
  | .view es | .cv es => .int .i64 es.length
  | .sl _ _ len => .int .i64 len
  | _ => .int .i64 0
def slc3P (x : AV) (H : List AObj) (sz : Nat) (m : Int) : Prop := match x with
  | .nils => m = 0
  | .view es | .cv es => (∀ y ∈ es, y.length = sz) ∧ m ≤ es.length
  | .sl id _ len => isRows H id ∧ szOf H id = sz ∧ m ≤ len
  | _ => False
def slc3V (x : AV) (m : Int) : AV := match x with
  | .view es | .cv es => .cv (es.take m.toNat)
  | .sl id r0 _ => .sl id r0 m.toNat
  | v => v
def clrP (x : AV) (H : List AObj) (sz : Nat) (z : List AV) : Prop := match x with
  | .nils => True
  | .view es => es = []
  | .sl id r0 len => isRows H id ∧ szOf H id = sz ∧ z.length = sz ∧ r0 + len ≤ (rowsOf H id).length
  | _ => False
def clrH (x : AV) (H : List AObj) (sz : Nat) (z : List AV) : List AObj := match x with
  | .sl id r0 len => H.set id (.rows sz ((rowsOf H id).take r0 ++ List.replicate len z ++ (rowsOf H id).drop (r0 + len)))
  | _ => H
def strOf : AV → ByteArray
  | .str s => s
  | _ => ⟨#[]⟩
def isStr : AV → Prop
  | .str _ => True
  | _ => False
def iaP (x : AV) (H : List AObj) (sz : Nat) (d : List AV) (n : Int) : Prop := match x with
  | .sl id r0 len => isRows H id ∧ szOf H id = sz ∧ 0 ≤ n ∧ n < len
  | .view es => 0 ≤ n ∧ n < es.length ∧ (nth es n.toNat d).length = sz
  | _ => False
def iaV (x : AV) (d : List AV) (n : Int) : AV := match x with
  | .sl id r0 _ => .ptr id (r0 + n.toNat) 0
  | .view es => .vp (nth es n.toNat d) 0
  | _ => .any

/-- When an operation may be. -/
def dpre (Γ : FuncId → Ctr) (io : IOp) (r : Opd → AV) (H : List AObj) : Prop :=
  match io with
  | .mv _ | .alloc _ | .mkfn .. | .mkmap => True
  | .pick c a b => match r c with
    | .bool p => (p = true → isB (r a)) ∧ (p = false → isB (r b))
    | _ => False
  | .box x => (cellsL (r x)).all AV.plain = true
  | .build z ps => FillOk z (ps.map fun p => (p.1, p.2.1, r p.2.2))
  | .rowOwn sz ps | .rowView sz ps => ∀ x ∈ ps.map fun p => cellsL (r p), x.length = sz ∧ x.all AV.plain = true
  | .ld g d x => match r x with
    | .ptr id i off => isRows H id ∧ i < (rowsOf H id).length ∧ rdp g (nth (rowsOf H id) i d) off
    | .vp row off => rdp g row off
    | _ => False
  | .st n x v => match r x with
    | .ptr id i off => isRows H id ∧ i < (rowsOf H id).length ∧ (cellsL (r v)).length = n ∧ (cellsL (r v)).all AV.plain = true ∧ off + n ≤ (nth (rowsOf H id) i []).length
    | _ => False
  | .nilc x => match r x with
    | .ptr id _ _ => live H id
    | .vp _ _ | .fn .. => True
    | _ => False
  | .fa _ x => match r x with
    | .ptr id _ _ => live H id
    | .vp _ _ => True
    | _ => False
  | .fld g off x => match r x with
    | .agg cs => rdp g cs off
    | _ => False
  | .ia sz d x i => isNum (r i) ∧ iaP (r x) H sz d (numOf (r i))
  | .iaa len sz x i => isNum (r i) ∧ 0 ≤ numOf (r i) ∧ numOf (r i) < len ∧ match r x with
    | .ptr id _ _ => live H id
    | .vp _ _ => True
    | _ => False
  | .bin op x y => binp op (r x) (r y)
  | .binw op x y => binwp op (r x) (r y)
  | .eqb _ x y => match r x, r y with
    | .bool _, .bool _ => True
    | _, _ => False
  | .eqc _ ks x y => match r x, r y with
    | .agg a, .agg b => eqp ks a b
    | _, _ => False
  | .eqnil _ kd x => match kd, r x with
    | .p, .nilp | .s, .nils | .m, .nilm | .f, .val .nilFunc => True
    | .p, .ptr id _ _ => live H id
    | .s, .sl id _ _ => live H id
    | .m, .map id => live H id
    | .p, .vp _ _ | .f, .fn _ _ _ => True
    | .s, .view es => es ≠ []
    | _, _ => False
  | .not x => match r x with
    | .bool _ => True
    | _ => False
  | .neg x => match r x with
    | .int a m => fits a (0 - m)
    | _ => False
  | .cvi a x => match r x with
    | .int _ m => fits a m
    | _ => False
  | .cvw _ x => isNum (r x)
  | .ext i x => match r x with
    | .tup vs => i < vs.length
    | _ => False
  | .call f args => match r f with
    | .fn g caps free => (Γ g).pre (caps ++ args.map r ++ free) H
    | _ => False
  | .app sz d s => srcp H (r s) ∧ (∀ x ∈ srcv H (r s), x.length = sz) ∧ appP (r d) H sz (srcv H (r s))
  | .mkslice _ _ l c => isNum (r l) ∧ isNum (r c) ∧ 0 ≤ numOf (r l) ∧ numOf (r l) ≤ numOf (r c) ∧ numOf (r c) ≤ mostRows
  | .slc sz x lo hi => loIs r lo ∧ loIs r hi ∧ match r x with
    | .nils => loOf r lo = 0 ∧ loOf r hi = 0
    | .view es => (∀ y ∈ es, y.length = sz) ∧ 0 ≤ loOf r lo ∧ (match hi with
      | none => loOf r lo ≤ es.length
      | some h => loOf r lo ≤ numOf (r h) ∧ numOf (r h) ≤ es.length)
    | .sl id _ len => isRows H id ∧ szOf H id = sz ∧ 0 ≤ loOf r lo ∧ (match hi with
      | none => loOf r lo ≤ len
      | some h => loOf r lo ≤ numOf (r h) ∧ numOf (r h) ≤ len)
    | _ => False
  | .slc3 sz x hi mx => isNum (r hi) ∧ isNum (r mx) ∧ numOf (r hi) = numOf (r mx) ∧ 0 ≤ numOf (r hi) ∧ slc3P (r x) H sz (numOf (r hi))
  | .clr sz z x => clrP (r x) H sz z
  | .strb x => srcp H (r x) ∧ ∀ y ∈ srcv H (r x), ∃ n, y = [.int .u8 n]
  | .eqs _ x y => isStr (r x) ∧ isStr (r y)
  | .len x => lenP (r x) H
  | .lenm x => match r x with
    | .nilm => True
    | .map id => isMap H id
    | _ => False
  | .look _ _ m key => match r key with
    | .int .i64 _ => (match r m with
      | .nilm => True
      | .map id => isMap H id
      | _ => False)
    | _ => False
  | .mapup m key _ | .del m key => match r m, r key with
    | .map id, .int .i64 _ => isMap H id
    | _, _ => False
  | .mn xs | .mx xs => match xs.map r with
    | [.int a _, .int b _] => a = b
    | _ => False
  | .prim p xs => (primV p (xs.map r)).isSome = true

/-- What it gives. -/ noncomputable def dval (Γ : FuncId → Ctr) (io : IOp) (r : Opd → AV) (H : List AObj) : AV :=
  match io with
  | .mv x => r x
  | .pick c a b => match r c with
    | .bool p => .bool (bif p then bval (r a) else bval (r b))
    | _ => .any
  | .alloc _ | .box _ => .ptr H.length 0 0
  | .build z ps => .agg (fillv z (ps.map fun p => (p.1, p.2.1, r p.2.2)))
  | .rowOwn _ ps => .sl H.length 0 ps.length
  | .rowView _ ps => .view (ps.map fun p => cellsL (r p))
  | .ld g d x => match r x with
    | .ptr id i off => rdd g (nth (rowsOf H id) i d) off
    | .vp row off => rdd g row off
    | _ => .any
  | .st .. => .any
  | .nilc x => r x
  | .fa o x => match r x with
    | .ptr id i off => .ptr id i (off + o)
    | .vp row off => .vp row (off + o)
    | _ => .any
  | .fld g off x => match r x with
    | .agg cs => rdd g cs off
    | _ => .any
  | .ia _ d x i => iaV (r x) d (numOf (r i))
  | .iaa _ sz x i => match r x with
    | .ptr id j off => .ptr id j (off + (numOf (r i)).toNat * sz)
    | .vp row off => .vp row (off + (numOf (r i)).toNat * sz)
    | _ => .any
  | .bin op x y => binv op (r x) (r y)
  | .binw op x y => binwv op (r x) (r y)
  | .eqb neg x y => match r x, r y with
    | .bool p, .bool q => .bool (if neg then p != q else p == q)
    | _, _ => .any
  | .eqc neg ks x y => match r x, r y with
    | .agg a, .agg b => .bool (if neg then !eqv ks a b else eqv ks a b)
    | _, _ => .any
  | .eqnil neg _ x => match r x with
    | .nilp | .nils | .nilm | .val _ => .bool (!neg)
    | _ => .bool neg
  | .not x => match r x with
    | .bool b => .bool (!b)
    | _ => .any
  | .neg x => match r x with
    | .int a m => .int a (0 - m)
    | _ => .any
  | .cvi a x => .int a (numOf (r x))
  | .cvw a x => .int a (a.wrap (numOf (r x)))
  | .ext i x => match r x with
    | .tup vs => nth vs i .any
    | _ => .any
  | .mkfn f first caps => .fn f (first.map r) (caps.map r)
  | .call f args => match r f with
    | .fn g caps free => (Γ g).val (caps ++ args.map r ++ free) H
    | _ => .any
  | .app _ d s => appV (r d) H (srcv H (r s))
  | .mkslice _ _ l _ => .sl H.length 0 (numOf (r l)).toNat
  | .slc _ x lo hi => match r x with
    | .view es => (match hi with
      | none => .view (es.drop (loOf r lo).toNat)
      | some h => .view ((es.drop (loOf r lo).toNat).take ((numOf (r h)).toNat - (loOf r lo).toNat)))
    | .sl id r0 len => (match hi with
      | none => .sl id (r0 + (loOf r lo).toNat) (len - (loOf r lo).toNat)
      | some h => .sl id (r0 + (loOf r lo).toNat) ((numOf (r h)).toNat - (loOf r lo).toNat))
    | v => v
  | .slc3 _ x hi _ => slc3V (r x) (numOf (r hi))
  | .clr .. => .tup []
  | .strb x => .str (strOfNums ((srcv H (r x)).map fun y => numOfCell y))
  | .eqs neg x y => .bool (if neg then !((strOf (r x)).toList == (strOf (r y)).toList) else (strOf (r x)).toList == (strOf (r y)).toList)
  | .len x => lenV (r x)
  | .lenm x => match r x with
    | .map id => .int .i64 (mapOf H id).length
    | _ => .int .i64 0
  | .mkmap => .map H.length
  | .look z ok m key => match r m with
    | .map id => lookAns z ok (alook (mapOf H id) (numOf (r key)))
    | _ => lookAns z ok none
  | .mapup .. => .any
  | .del .. => .tup []
  | .mn xs => match xs.map r with
    | [.int a m, .int _ n] => .int a (if n < m then n else m)
    | _ => .any
  | .mx xs => match xs.map r with
    | [.int a m, .int _ n] => .int a (if m < n then n else m)
    | _ => .any
  | .prim p xs => (primV p (xs.map r)).getD .any

/-- The heap that it leaves. -/
def dhp (Γ : FuncId → Ctr) (io : IOp) (r : Opd → AV) (H : List AObj) : List AObj :=
  match io with
  | .alloc z => H ++ [.rows z.length [z]]
  | .box x => H ++ [.rows (cellsL (r x)).length [cellsL (r x)]]
  | .rowOwn sz ps => H ++ [.rows sz (ps.map fun p => cellsL (r p))]
  | .st n x v => match r x with
    | .ptr id i off => H.set id (.rows (szOf H id) ((rowsOf H id).set i (over (nth (rowsOf H id) i []) off (cellsL (r v)))))
    | _ => H
  | .call f args => match r f with
    | .fn g caps free => (Γ g).hp (caps ++ args.map r ++ free) H
    | _ => H
  | .app sz d s => appH (r d) H sz (srcv H (r s))
  | .clr sz z x => clrH (r x) H sz z
  | .mkslice sz z l _ => H ++ [.rows sz (List.replicate (numOf (r l)).toNat z)]
  | .mkmap => H ++ [.imap []]
  | .mapup m key v => match r m with
    | .map id => H.set id (.imap (aput (mapOf H id) (numOf (r key)) (r v)))
    | _ => H
  | .del m key => match r m with
    | .map id => H.set id (.imap (adel (mapOf H id) (numOf (r key))))
    | _ => H
  | _ => H

section
variable {P : Program} {Γ : FuncId → Ctr} {r : Opd → AV} {H : List AObj}

theorem isRows_some {id : Nat} (h : isRows H id) : ∃ sz rs, H[id]? = some (.rows sz rs) ∧ rowsOf H id = rs ∧ szOf H id = sz := by
  unfold isRows isRowsO at h
  split at h
  · rename_i sz rs e; exact ⟨sz, rs, e, by simp [rowsOf, rowsO, e], by simp [szOf, szO, e]⟩
  · exact h.elim
theorem isMap_some {id : Nat} (h : isMap H id) : ∃ es, H[id]? = some (.imap es) ∧ mapOf H id = es := by
  unfold isMap at h
  split at h
  · rename_i es e; exact ⟨es, e, by simp [mapOf, e]⟩
  · exact h.elim
theorem live_some {id : Nat} (h : live H id) : ∃ o, H[id]? = some o ∧ o ≠ .dead := by
  unfold live liveO at h
  split at h
  · exact h.elim
  · rename_i o hd e; exact ⟨o, e, fun h => hd h⟩
  · exact h.elim
theorem isNum_some {x : AV} (h : isNum x) : ∃ k, x = .int k (numOf x) := by
  cases x <;> simp only [isNum] at h
  exact ⟨_, rfl⟩
theorem rd_of {g : Option Nat} {row : List AV} {off : Nat} {k : AV → Prop} (h : rdp g row off) (hk : k (rdd g row off)) : rd g row off k := by
  cases g with
  | none =>
    simp only [rdp] at h
    simp only [rdd, nth, List.getD_eq_getElem?_getD, List.getElem?_eq_getElem h, Option.getD_some] at hk
    simpa only [rd, List.getElem?_eq_getElem h] using hk
  | some n => exact ⟨h, hk⟩
theorem getD_lt {α : Type} {l : List α} {i : Nat} (d : α) (h : i < l.length) : l[i]? = some (nth l i d) := by
  simp [nth, List.getD_eq_getElem?_getD, List.getElem?_eq_getElem h]
theorem srcRows_of {x : AV} {k : List (List AV) → Prop} (h : srcp H x) (hk : k (srcv H x)) : srcRows H x k := by
  cases x <;> simp only [srcp] at h
  · exact hk
  · obtain ⟨h1, h2⟩ := h
    obtain ⟨sz, rs, e, e1, e2⟩ := isRows_some h1
    simp only [srcRows, e]
    simp only [srcv, e1] at hk
    rw [e1] at h2
    exact ⟨h2, hk⟩
  · exact hk
  · exact hk

theorem dop_of (hG : Knows P Γ) {io : IOp} (h : dpre Γ io r H) : dop P io r H fun y h => y = dval Γ io r H ∧ h = dhp Γ io r H := by
  cases io
  case mv => exact ⟨by trivial, by trivial⟩
  case alloc => exact ⟨by trivial, by trivial⟩
  case mkfn => exact ⟨by trivial, by trivial⟩
  case mkmap => exact ⟨by trivial, by trivial⟩
  case pick c a b =>
    simp only [dpre, dop, dval, dhp] at h ⊢
    generalize r c = x at *
    cases x <;> first | exact h.elim | skip
    exact ⟨h.1, h.2, by trivial, by trivial⟩
  case box x => exact ⟨h, by trivial, by trivial⟩
  case build z ps => exact (fill1_iff _ _).2 ⟨h, by trivial, by trivial⟩
  case rowOwn => exact ⟨h, by simp [dval], rfl⟩
  case rowView => exact ⟨h, by trivial, by trivial⟩
  case ld g d x =>
    simp only [dpre, dop, dval, dhp] at h ⊢
    generalize r x = a at *
    cases a <;> first | exact h.elim | skip
    · obtain ⟨h1, h2, h3⟩ := h
      obtain ⟨sz, rs, e, e1, e2⟩ := isRows_some h1
      rw [e1] at h2 h3
      simp only [e, e1, getD_lt d h2]
      exact rd_of h3 ⟨by trivial, by trivial⟩
    · exact rd_of h ⟨by trivial, by trivial⟩
  case st n x v =>
    simp only [dpre, dop, dval, dhp] at h ⊢
    generalize r x = a at *
    cases a <;> first | exact h.elim | skip
    obtain ⟨h1, h2, h3, h4, h5⟩ := h
    obtain ⟨sz, rs, e, e1, e2⟩ := isRows_some h1
    rw [e1] at h2 h5
    simp only [e, e1, e2, getD_lt [] h2]
    exact ⟨h3, h4, h5, by trivial, by trivial⟩
  case nilc x =>
    simp only [dpre, dop, dval, dhp] at h ⊢
    generalize r x = a at *
    cases a <;> first | exact h.elim | skip
    · exact ⟨live_some h, by trivial, by trivial⟩
    · exact ⟨by trivial, by trivial⟩
    · exact ⟨by trivial, by trivial⟩
  case fa o x =>
    simp only [dpre, dop, dval, dhp] at h ⊢
    generalize r x = a at *
    cases a <;> first | exact h.elim | skip
    · exact ⟨live_some h, by trivial, by trivial⟩
    · exact ⟨by trivial, by trivial⟩
  case fld g off x =>
    simp only [dpre, dop, dval, dhp] at h ⊢
    generalize r x = a at *
    cases a <;> first | exact h.elim | skip
    exact rd_of h ⟨by trivial, by trivial⟩
  case ia sz d x i =>
    simp only [dpre, dop, dval, dhp, appP, appV, appH, lenP, lenV, iaP, iaV] at h ⊢
    obtain ⟨hi, h⟩ := h
    obtain ⟨k, hk⟩ := isNum_some hi
    generalize numOf (r i) = n at *
    rw [hk]
    generalize r x = a at *
    cases a <;> first | exact h.elim | skip
    · obtain ⟨h1, h2, h3, h4⟩ := h
      obtain ⟨sz', rs, e, e1, e2⟩ := isRows_some h1
      simp only [e]
      exact ⟨by rw [← e2]; exact h2, h3, h4, by trivial, by trivial⟩
    · rename_i es
      obtain ⟨h1, h2, h3⟩ := h
      have hlt : n.toNat < es.length := by omega
      simp only [getD_lt d hlt]
      exact ⟨h1, h3, by trivial, by trivial⟩
  case iaa len sz x i =>
    simp only [dpre, dop, dval, dhp] at h ⊢
    obtain ⟨hi, h1, h2, h⟩ := h
    obtain ⟨k, hk⟩ := isNum_some hi
    generalize numOf (r i) = n at *
    rw [hk]
    generalize r x = a at *
    cases a <;> first | exact h.elim | skip
    · exact ⟨live_some h, h1, h2, by trivial, by trivial⟩
    · exact ⟨h1, h2, by trivial, by trivial⟩
  case bin op x y =>
    simp only [dpre, dop, dval, dhp] at h ⊢
    generalize r x = a at *
    generalize r y = b at *
    cases a <;> first | exact h.elim | skip
    cases b <;> first | exact h.elim | skip
    obtain ⟨e, h⟩ := h
    subst e
    cases op <;> simp_all [binv, abin]
  case binw op x y =>
    simp only [dpre, dop, dval, dhp] at h ⊢
    generalize r x = a at *
    generalize r y = b at *
    cases a <;> first | exact h.elim | skip
    cases b <;> first | exact h.elim | skip
    cases op <;> simp_all [binwp, binwv, abinw]
  case eqb neg x y =>
    simp only [dpre, dop, dval, dhp] at h ⊢
    generalize r x = a at *
    generalize r y = b at *
    cases a <;> first | exact h.elim | skip
    cases b <;> first | exact h.elim | skip
    exact ⟨by trivial, by trivial⟩
  case eqc neg ks x y =>
    simp only [dpre, dop, dval, dhp] at h ⊢
    generalize r x = a at *
    generalize r y = b at *
    cases a <;> first | exact h.elim | skip
    cases b <;> first | exact h.elim | skip
    exact eqCells_of h ⟨by trivial, by trivial⟩
  case eqnil neg kd x =>
    simp only [dpre, dop, dval, dhp] at h ⊢
    generalize r x = a at *
    split at h <;> first | exact h.elim | exact ⟨by trivial, by trivial⟩ | exact ⟨live_some h, by trivial, by trivial⟩ | exact ⟨h, by trivial, by trivial⟩
  case not x =>
    simp only [dpre, dop, dval, dhp] at h ⊢
    generalize r x = a at *
    cases a <;> first | exact h.elim | skip
    exact ⟨by trivial, by trivial⟩
  case neg x =>
    simp only [dpre, dop, dval, dhp] at h ⊢
    generalize r x = a at *
    cases a <;> first | exact h.elim | skip
    exact ⟨h, by trivial, by trivial⟩
  case cvi a x =>
    simp only [dpre, dop, dval, dhp] at h ⊢
    generalize r x = b at *
    cases b <;> first | exact h.elim | skip
    exact ⟨h, by trivial, by trivial⟩
  case cvw a x =>
    simp only [dpre, dop, dval, dhp] at h ⊢
    obtain ⟨k, hk⟩ := isNum_some h
    generalize numOf (r x) = n at *
    rw [hk]
    exact ⟨by trivial, by trivial⟩
  case ext i x =>
    simp only [dpre, dop, dval, dhp] at h ⊢
    generalize r x = a at *
    cases a <;> first | exact h.elim | skip
    simp only at h
    simp only [getD_lt .any h]
    exact ⟨trivial, trivial⟩
  case call f args =>
    simp only [dpre, dop, dval, dhp] at h ⊢
    generalize r f = a at *
    cases a <;> first | exact h.elim | skip
    exact ⟨_, _, hG _ _ _ h, by trivial, by trivial⟩
  case app sz d s =>
    simp only [dpre, dop, dval, dhp, appP, appV, appH, lenP, lenV, iaP, iaV] at h ⊢
    obtain ⟨h1, h2, h3⟩ := h
    refine srcRows_of h1 ⟨h2, ?_⟩
    generalize r d = a at *
    cases a <;> first | exact h3.elim | skip
    · exact ⟨h3, by trivial, by trivial⟩
    · obtain ⟨h4, h5, h6, h7⟩ := h3
      obtain ⟨sz', rs, e, e1, e2⟩ := isRows_some h4
      rw [e1] at h6
      simp only [e, e1]
      exact ⟨by rw [← e2]; exact h5, h6, h7, by trivial, by trivial⟩
    · exact ⟨h3.1, h3.2.1, h3.2.2, by trivial, by trivial⟩
  case mkslice sz z l c =>
    simp only [dpre, dop, dval, dhp] at h ⊢
    obtain ⟨h1, h2, h3, h4, h5⟩ := h
    obtain ⟨k, hk⟩ := isNum_some h1
    obtain ⟨k', hk'⟩ := isNum_some h2
    generalize numOf (r l) = n at *
    generalize numOf (r c) = n' at *
    rw [hk, hk']
    exact ⟨h3, h4, h5, by trivial, by trivial⟩
  case slc sz x lo hi =>
    simp only [dpre, dop, dval, dhp] at h ⊢
    obtain ⟨h1, h2, h⟩ := h
    have hlo : ∃ k, loAV r lo = .int k (loOf r lo) := by
      cases lo with
      | none => exact ⟨.i64, rfl⟩
      | some l => exact isNum_some h1
    obtain ⟨k, hk⟩ := hlo
    rw [hk]
    generalize loOf r lo = m at *
    have hhi : ∀ hh, hi = some hh → ∃ k, r hh = .int k (numOf (r hh)) := fun hh e => by subst e; exact isNum_some h2
    generalize r x = a at *
    cases a <;> first | exact h.elim | skip
    · obtain ⟨h3, h4⟩ := h
      refine ⟨h3, ?_, by trivial, by trivial⟩
      cases hi with
      | none => trivial
      | some hh =>
        obtain ⟨k', hk'⟩ := hhi hh rfl
        simp only [loOf] at h4
        rw [h4] at hk'
        simp only [hk']
    · obtain ⟨h3, h4, h5, h7⟩ := h
      obtain ⟨sz', rs, e, e1, e2⟩ := isRows_some h3
      simp only [e]
      cases hi with
      | none => exact ⟨by rw [← e2]; exact h4, h5, h7, by trivial, by trivial⟩
      | some hh =>
        obtain ⟨k', hk'⟩ := hhi hh rfl
        simp only at h7 ⊢
        generalize numOf (r hh) = n at *
        simp only [hk']
        exact ⟨by rw [← e2]; exact h4, h5, h7.1, h7.2, by trivial, by trivial⟩
    · obtain ⟨h3, h4, h5⟩ := h
      refine ⟨h3, ?_⟩
      cases hi with
      | none => exact ⟨h4, h5, by trivial, by trivial⟩
      | some hh =>
        obtain ⟨k', hk'⟩ := hhi hh rfl
        simp only at h5 ⊢
        generalize numOf (r hh) = n at *
        simp only [hk']
        exact ⟨h4, h5.1, h5.2, by trivial, by trivial⟩
  case slc3 sz x hi mx =>
    simp only [dpre, dop, dval, dhp, slc3P, slc3V] at h ⊢
    obtain ⟨h1, h2, h3, h4, h⟩ := h
    obtain ⟨k, hk⟩ := isNum_some h1
    obtain ⟨k', hk'⟩ := isNum_some h2
    rw [hk, hk', ← h3]
    generalize numOf (r hi) = m at *
    refine ⟨rfl, h4, ?_⟩
    generalize r x = a at *
    cases a <;> first | exact h.elim | skip
    · exact ⟨h, by trivial, by trivial⟩
    · obtain ⟨h5, h6, h7⟩ := h
      obtain ⟨sz', rs, e, e1, e2⟩ := isRows_some h5
      simp only [e]
      exact ⟨by rw [← e2]; exact h6, h7, by trivial, by trivial⟩
    · exact ⟨h.1, h.2, by trivial, by trivial⟩
    · exact ⟨h.1, h.2, by trivial, by trivial⟩
  case clr sz z x =>
    simp only [dpre, dop, dval, dhp, clrP, clrH] at h ⊢
    generalize r x = a at *
    cases a <;> first | exact h.elim | skip
    · exact ⟨by trivial, by trivial⟩
    · obtain ⟨h5, h6, h7, h8⟩ := h
      obtain ⟨sz', rs, e, e1, e2⟩ := isRows_some h5
      rw [e1] at h8
      simp only [e, e1]
      exact ⟨by rw [← e2]; exact h6, h7, h8, by trivial, by trivial⟩
    · exact ⟨h, by trivial, by trivial⟩
  case strb x =>
    simp only [dpre, dop, dval, dhp] at h ⊢
    exact srcRows_of h.1 ⟨h.2, by trivial, by trivial⟩
  case eqs neg x y =>
    simp only [dpre, dop, dval, dhp] at h ⊢
    obtain ⟨h1, h2⟩ := h
    generalize r x = a at *
    generalize r y = b at *
    cases a <;> first | exact h1.elim | skip
    cases b <;> first | exact h2.elim | skip
    exact ⟨by trivial, by trivial⟩
  case len x =>
    simp only [dpre, dop, dval, dhp, appP, appV, appH, lenP, lenV, iaP, iaV] at h ⊢
    generalize r x = a at *
    cases a <;> first | exact h.elim | skip
    · exact ⟨by trivial, by trivial⟩
    · exact ⟨live_some h, by trivial, by trivial⟩
    · exact ⟨by trivial, by trivial⟩
    · exact ⟨by trivial, by trivial⟩
  case lenm x =>
    simp only [dpre, dop, dval, dhp] at h ⊢
    generalize r x = a at *
    cases a <;> first | exact h.elim | skip
    · exact ⟨by trivial, by trivial⟩
    · obtain ⟨es, e, e1⟩ := isMap_some h
      simp only [e, e1]
      exact ⟨trivial, trivial⟩
  case look z ok m key =>
    simp only [dpre, dop, dval, dhp] at h ⊢
    split at h
    · rename_i n hk
      rw [hk]
      generalize r m = a at *
      cases a <;> first | exact h.elim | skip
      · exact ⟨by trivial, by trivial⟩
      · obtain ⟨es, e, e1⟩ := isMap_some h
        simp only [e, e1, numOf]
        exact ⟨fun v hv => by simp [hv, lookAns], fun hn => by simp [hn, lookAns]⟩
    · exact h.elim
  case mapup m key v =>
    simp only [dpre, dop, dval, dhp] at h ⊢
    split at h
    · rename_i hm hk
      obtain ⟨es, e, e1⟩ := isMap_some h
      simp only [e, e1, hk, hm, numOf]
      exact ⟨trivial, trivial⟩
    · exact h.elim
  case del m key =>
    simp only [dpre, dop, dval, dhp] at h ⊢
    split at h
    · rename_i hm hk
      obtain ⟨es, e, e1⟩ := isMap_some h
      simp only [e, e1, hk, hm, numOf]
      exact ⟨trivial, trivial⟩
    · exact h.elim
  case mn xs =>
    simp only [dpre, dop, dval, dhp] at h ⊢
    split at h
    · rename_i heq; rw [heq]; exact ⟨h, by trivial, by trivial⟩
    · exact h.elim
  case mx xs =>
    simp only [dpre, dop, dval, dhp] at h ⊢
    split at h
    · rename_i heq; rw [heq]; exact ⟨h, by trivial, by trivial⟩
    · exact h.elim
  case prim p xs =>
    simp only [dpre, dop, dval, dhp] at h ⊢
    obtain ⟨v, hv⟩ := Option.isSome_iff_exists.1 h
    rw [hv]
    exact ⟨by trivial, by trivial⟩

theorem dfun_sound (hG : Knows P Γ) {o : Oper} {io : IOp} (hok : okOp P o io = true) (h : dpre Γ io r H) : OpOk P o r H (Is (dval Γ io r H) (dhp Γ io r H)) :=
  dop_ok hok (dop_of hG h)
end
end Go.Proofs.Ytnjpfoblmomnlaa.Sx
