/- An abstract interpreter of the model's programs: its definition, and that each operation is carried out soundly. No statement of the program is proved here; no condition. -/
import Derived.Calls
import Derived.Orders
import Derived.KernelRfl
import Derived.Test.YtoijpmokcdifnaaGreatDoorProg
import Derived.Shelf.Unicode.DecodeSlow
import Derived.Lib.ItoaNum
import Derived.Lib.LaidTab
import Derived.Below
import Derived.Deep.Draws
import Derived.Laws.IdiomCopy
import Derived.Laws.BytesString
import Derived.Laws.MakeOwn
import Derived.Laws.IdiomStrings
import Derived.Lib.UnsafeStr
import Derived.Laws.Strings
namespace Go.Abs

inductive AObj where
  | dead
  | row (gen sz : Nat) (cells : List Value)
  | map (es : List (Value × Value))
  deriving Inhabited

abbrev AH := List AObj

structure Slot where
  mk ::
  (g : Bool)
  (u : Bool)
  (v : Value)

abbrev Frm := List Slot
abbrev S (v : Value) : Slot := ⟨true, true, v⟩
abbrev E : Slot := ⟨false, false, undef⟩

inductive Out where
  | ret (v : Value) (h : AH)
  | pan (v : Value) (h : AH)

inductive Label where
  | fn (f : Nat)
  | code (f : Nat) (path : List Nat)

abbrev R := Option Out
abbrev Hnd := Label → Nat → Frm → AH → R

/-! ### typed continuations -/
def asInt (k : IntKind) (v : Value) (K : Int → R) : R := match v with | .int k' n => if k' = k then K n else none | _ => none
def asBool (v : Value) (K : Bool → R) : R := match v with | .bool b => K b | _ => none
def asStr (v : Value) (K : ByteArray → R) : R := match v with | .string s => K s | _ => none
def asTup (v : Value) (K : List Value → R) : R := match v with | .tuple vs => K vs.toList | _ => none
def unc (l : List Value) (K : Value → List Value → R) : R := match l with | a :: l => K a l | [] => none
def nilL (l : List Value) (X : R) : R := match l with | [] => X | _ :: _ => none

inductive TK where
  | int (k : IntKind) | bool | str | other
def tk (P : Program) (t : TypeId) : TK :=
  match P.underlying t with
  | some (.int k) => .int k | some .bool => .bool | some .string => .str | _ => .other
def ty1 (P : Program) (t : TypeId) (v : Value) (K : Value → R) : R :=
  match tk P t with
  | .int k => asInt k v fun n => K (.int k n)
  | .bool => asBool v fun b => K (.bool b)
  | .str => asStr v fun s => K (.string s)
  | .other => K v
def tyL (P : Program) : List TypeId → List Value → (List Value → R) → R
  | [], l, K => nilL l (K [])
  | t :: ts, l, K => unc l fun a l => ty1 P t a fun a => tyL P ts l fun r => K (a :: r)
def ty (P : Program) (t : TypeId) (v : Value) (K : Value → R) : R :=
  match P.underlying t with
  | some (.tuple ts) => asTup v fun l => tyL P ts.toList l fun r => K (.tuple r.toArray)
  | _ => ty1 P t v K
def dflt1 (P : Program) (t : TypeId) : Value :=
  match tk P t with
  | .int k => .int k 0 | .bool => .bool false | .str => .string ⟨#[]⟩ | .other => undef
def dflt (P : Program) (t : TypeId) : Value :=
  match P.underlying t with
  | some (.tuple ts) => .tuple (ts.toList.map (dflt1 P)).toArray
  | _ => dflt1 P t

/-! ### guards -/
def chk (g : Bool) (X : R) : R := match g with | true => X | false => none
def useG (act : Option Bool) (g : Bool) (X : R) : R :=
  match g with
  | true => X
  | false => match act with | none => none | some a => match a with | true => none | false => X
def oE {α : Type} (act : Option Bool) (x : Option α) (d : α) (K : α → R) : R :=
  match x with
  | some v => K v
  | none => match act with | none => none | some a => match a with | true => none | false => K d
def onRet (x : R) (K : Value → AH → R) (pan : Value → AH → R) : R :=
  match x with
  | some o => match o with | .ret v h => K v h | .pan v h => pan v h
  | none => none
def callE (act : Option Bool) (x : R) (d : Value) (h : AH) (K : Value → AH → R) (pan : Value → AH → R) : R :=
  match act with
  | none => onRet x K pan
  | some a => match a with | true => onRet x K pan | false => K d h
def heapE {α : Type} (act : Option Bool) (x : Option α) (d : α) (K : α → R) : R :=
  match act with
  | none => x.bind K
  | some a => match a with | true => x.bind K | false => K d
def noTup (v : Value) (X : R) : R := match v with | .tuple _ => none | _ => X
def noTups : List Value → R → R
  | [], X => X
  | v :: vs, X => noTup v (noTups vs X)
def mkS (act : Option Bool) (v : Value) : Slot := match act with | none => S v | some a => ⟨a, true, v⟩
def eqW (b want : Bool) : Bool := match want with | true => b | false => !b

/-! ### memory -/
def rowAt (h : AH) (id g : Nat) : Option (Nat × List Value) :=
  match h[id]? with
  | some (.row g' sz cs) => if g = g' then some (sz, cs) else none
  | _ => none
def ld (h : AH) (p : Value) : Option Value :=
  match p with
  | .pointer (some ⟨id, off, some g⟩) => (rowAt h id g).bind fun r => r.2[off]?
  | _ => none
def cut (cs : List Value) (off n : Nat) : Option (List Value) :=
  if off + n ≤ cs.length then some ((cs.drop off).take n) else none
def ldN (h : AH) (p : Value) (n : Nat) : Option (List Value) :=
  match p with
  | .pointer (some ⟨id, off, some g⟩) => (rowAt h id g).bind fun r => cut r.2 off n
  | _ => none
def setMany (cs : List Value) (off : Nat) : List Value → List Value
  | [] => cs
  | v :: vs => setMany (cs.set off v) (off + 1) vs
def oneCell : Value → Bool
  | .agg _ => false | .tuple _ => false | _ => true
def stN (lim : Nat) (h : AH) (p : Value) (vs : List Value) : Option AH :=
  match p with
  | .pointer (some ⟨id, off, some g⟩) =>
    (rowAt h id g).bind fun r => if lim ≤ id ∧ off + vs.length ≤ r.2.length ∧ vs.all oneCell = true then some (h.set id (.row g r.1 (setMany r.2 off vs))) else none
  | _ => none
def newP (h : AH) : Value := .pointer (some ⟨h.length, 0, some 0⟩)
def newS (h : AH) (n c : Nat) : Value := .slice (some ⟨h.length, 0, some 0⟩) n c

/-! ### slices -/
def lenV : Value → Option Int
  | .slice _ n _ => some n
  | _ => none
def ixAddr (v : Value) (i : Int) (size : Nat) : Option Value :=
  match v with
  | .slice (some ⟨id, off, g⟩) n _ => if 0 ≤ i ∧ i < n then some (.pointer (some ⟨id, off + i.toNat * size, g⟩)) else none
  | _ => none
def strAt (s : ByteArray) (i : Int) : Option Int :=
  if 0 ≤ i then (s[i.toNat]?).map fun b => (b.toNat : Int) else none
def strCut (s : ByteArray) (l h : Int) : Option ByteArray :=
  if 0 ≤ l ∧ l ≤ h ∧ h ≤ s.size then some (s.extract l.toNat h.toNat) else none
/-- how many cells an element has, of the number that stands with a row: behind it may stand which type its variables have -/
def wd (sz : Nat) : Nat := sz % 4294967296
/-- 'x[l:h:m]' of a slice; the row is looked at for its elements' size -/
def slCut (hp : AH) (v : Value) (lo hi mx : Option Int) (size : Nat) : Option Value :=
  match v with
  | .slice none 0 0 =>
    if (lo.getD 0) = 0 ∧ (hi.getD 0) = 0 ∧ (mx.getD 0) = 0 then some (.slice none 0 0) else none
  | .slice (some ⟨id, off, some g⟩) n c =>
    (rowAt hp id g).bind fun r =>
      let l := lo.getD 0
      let h := hi.getD n
      if 0 ≤ l ∧ l ≤ h ∧ wd r.1 = size ∧ h ≤ c ∧ n ≤ c then
        match mx with
        | none => some (.slice (some ⟨id, off + l.toNat * size, some g⟩) (h - l).toNat (c - l.toNat))
        | some m => if h ≤ m ∧ m ≤ c then some (.slice (some ⟨id, off + l.toNat * size, some g⟩) (h - l).toNat (m - l).toNat) else none
      else none
  | _ => none
/-- the cells of the first n elements of what is appended or copied -/
def srcCells (hp : AH) (x : Value) (n size : Nat) : Option (List Value) :=
  match x with
  | .slice none _ _ => if n = 0 then some [] else none
  | .slice (some ⟨id, off, some g⟩) _ _ => (rowAt hp id g).bind fun r => cut r.2 off (n * size)
  | .string s => if size = 1 then some ((s.data.toList.take n).map fun b => .int .u8 b.toNat) else none
  | _ => none
def lenOf : Value → Option Nat
  | .slice _ n _ => some n
  | .string s => some s.size
  | _ => none
def app (lim : Nat) (hp : AH) (s x : Value) (size tg bytes : Nat) : Option (Value × AH) :=
  (lenOf x).bind fun n =>
  match s with
  | .slice none 0 0 =>
    if n = 0 then some (.slice none 0 0, hp) else
    (srcCells hp x n size).bind fun cs => if n * bytes ≤ 2 ^ 47 then some (newS hp n n, hp ++ [.row 0 tg cs]) else none
  | .slice (some ⟨id, off, some g⟩) len cap =>
    if n = 0 then some (s, hp) else
    (srcCells hp x n size).bind fun cs => (rowAt hp id g).bind fun r =>
      if len + n ≤ cap then
        if lim ≤ id ∧ r.1 = tg ∧ off + (len + n) * size ≤ r.2.length then some (.slice (some ⟨id, off, some g⟩) (len + n) cap, hp.set id (.row g tg (setMany r.2 (off + len * size) cs))) else none
      else
        if lim ≤ id ∧ r.1 = tg ∧ off = 0 ∧ len * size = r.2.length ∧ (len + n) * bytes ≤ 2 ^ 47 then
          some (.slice (some ⟨id, 0, some (g + 1)⟩) (len + n) (len + n), hp.set id (.row (g + 1) tg (r.2 ++ cs))) else none
  | _ => none
def copyA (lim : Nat) (hp : AH) (d x : Value) (size : Nat) : Option (Int × AH) :=
  (lenOf x).bind fun m =>
  match d with
  | .slice none 0 0 => some (0, hp)
  | .slice (some ⟨id, off, some g⟩) len _ =>
    let n := Nat.min m len
    (srcCells hp x n size).bind fun cs => (stN lim hp (.pointer (some ⟨id, off, some g⟩)) cs).bind fun h => some ((n : Int), h)
  | _ => none
def repL (n : Nat) (z : List Value) : List Value := (List.replicate n z).flatten
def clearA (lim : Nat) (hp : AH) (d : Value) (zero : List Value) : Option AH :=
  match d with
  | .slice none _ _ => some hp
  | .slice (some ⟨id, off, some g⟩) n _ => if n = 0 then some hp else stN lim hp (.pointer (some ⟨id, off, some g⟩)) (repL n zero)
  | _ => none
def bytesOf : List Value → Option (List UInt8)
  | [] => some []
  | .int .u8 n :: l => (bytesOf l).map (UInt8.ofNat n.toNat :: ·)
  | _ => none
def b2s (hp : AH) (x : Value) : Option ByteArray :=
  match x with
  | .slice none _ _ => some ⟨#[]⟩
  | .slice (some ⟨id, off, some g⟩) n _ => (rowAt hp id g).bind fun r => (cut r.2 off n).bind fun cs => (bytesOf cs).map fun l => ⟨l.toArray⟩
  | _ => none
/-! ### strings that are made of memory -/
def bytesR : List Value → Option (List UInt8)
  | [] => some []
  | .int .u8 n :: l => if 0 ≤ n ∧ n < 256 then (bytesR l).map (UInt8.ofNat n.toNat :: ·) else none
  | _ => none
/-- where a slice's first element lies -/
def dataP (v : Value) : Option Value :=
  match v with
  | .slice none 0 0 => some (.pointer none)
  | .slice (some ⟨id, off, some g⟩) _ c => if 0 < c then some (.pointer (some ⟨id, off, some g⟩)) else none
  | _ => none
/-- 'unsafe.String' of bytes that are alone in their row: they are not looked at again -/
def strRow (lim : Nat) (hp : AH) (p : Value) (n : Int) (e : Nat) : Option (ByteArray × AH) :=
  match p with
  | .pointer none => if n = 0 then some (⟨#[]⟩, hp) else none
  | .pointer (some ⟨id, off, some g⟩) =>
    if n = 0 then some (⟨#[]⟩, hp) else
    (rowAt hp id g).bind fun r =>
      if lim ≤ id ∧ 0 ≤ n ∧ n ≤ 9223372036854775807 ∧ off = 0 ∧ r.1 = 4294967296 * (e + 1) + 1 then
        (cut r.2 0 n.toNat).bind fun cs => (bytesR cs).map fun l => (⟨l.toArray⟩, hp.set id (.row (g + 1) 0 []))
      else none
  | _ => none
/-! ### maps with keys that are whole numbers or strings -/
/-! ### values -/
def flat0 : Value → Bool
  | .bool _ | .int .. | .string _ | .nilFunc | .nilIface | .pointer none | .slice none 0 0 | .map none => true
  | _ => false
def flat : Value → Bool
  | .agg cs => cs.toList.all flat0
  | .iface _ v => flat0 v
  | v => flat0 v
def slot (fr : Frm) : Operand → Slot
  | .tmp t => fr.getD t E
  | .const v => ⟨flat v, true, v⟩
  | .func f => S (.func (.func f) #[] #[])
  | .global _ => E
def put (fr : Frm) (d : Option Tmp) (s : Slot) : Frm := match d with | some d => fr.set d s | none => fr
def use (act : Option Bool) (s : Slot) (X : Value → R) : R := useG act s.g (X s.v)
def useL (act : Option Bool) : List Slot → (List Value → R) → R
  | [], X => X []
  | s :: ss, X => use act s fun v => useL act ss fun vs => X (v :: vs)
def useO (act : Option Bool) (fr : Frm) : Option Operand → (Option Int → R) → R
  | none, X => X none
  | some x, X => use act (slot fr x) fun v => match v with | .int _ n => X (some n) | _ => none
def pickG (q ga gb : Bool) : Bool := match ga with | true => (match gb with | true => true | false => q) | false => match q with | true => false | false => gb
def pickV (q : Bool) (a b : Value) : Value :=
  match a, b with
  | .bool x, .bool y => .bool (cond q x y)
  | .int k x, .int k' y => if k = k' then .int k (cond q x y) else cond q a b
  | .string x, .string y => .string (cond q x y)
  | a, b => cond q a b

/-! ### equality -/
def sizeT (P : Program) (t : TypeId) : Nat := match P.info? t with | some i => i.size | none => 0
def partA (P : Program) (t : TypeId) (cs : List Value) (off : Nat) : Option Value :=
  match P.underlying t with
  | some (.struct _) | some (.array ..) => (cut cs off (sizeT P t)).map fun l => .agg l.toArray
  | some _ => cs[off]?
  | none => none
def eqA (P : Program) : Nat → TypeId → Value → Value → Option Bool
  | 0, _, _, _ => none
  | d + 1, t, x, y =>
    match P.underlying t with
    | some .bool => (match x, y with | .bool a, .bool b => some (a == b) | _, _ => none)
    | some (.int _) => (match x, y with | .int k a, .int k' b => if k = k' then some (a == b) else none | _, _ => none)
    | some .string => (match x, y with | .string a, .string b => some (decide (a = b)) | _, _ => none)
    | some (.pointer _) => (match x, y with | .pointer none, .pointer b => some b.isNone | .pointer _, .pointer none => some false | _, _ => none)
    | some (.slice _) => (match x, y with | .slice none _ _, .slice b _ _ => some b.isNone | .slice _ _ _, .slice none _ _ => some false | _, _ => none)
    | some (.map _ _) => (match x, y with | .map none, .map b => some b.isNone | .map _, .map none => some false | _, _ => none)
    | some (.func _ _ _) => (match x, y with | .nilFunc, .nilFunc => some true | .nilFunc, .func .. => some false | .func .., .nilFunc => some false | _, _ => none)
    | some (.interface _) => (match x, y with | .nilIface, .iface .. => some false | .iface .., .nilIface => some false | _, _ => none)
    | some (.struct fs) => (match x, y with
      | .agg xs, .agg ys =>
        if P.stoodInHeld t then none else
        fs.toList.foldr (fun f r => if f.name ≠ "_" then
          (partA P f.type xs.toList f.offset).bind fun a => (partA P f.type ys.toList f.offset).bind fun b => (eqA P d f.type a b).bind fun q => r.map fun z => q && z else r) (some true)
      | _, _ => none)
    | _ => none
def arA (op : BinOp) (k : IntKind) (a b : Int) : Option Int :=
  match op with
  | .add => some (k.wrap (a + b)) | .sub => some (k.wrap (a - b)) | .mul => some (k.wrap (a * b))
  | .and => some (k.wrap (BitVec.ofInt k.bits a &&& BitVec.ofInt k.bits b).toNat)
  | .or => some (k.wrap (BitVec.ofInt k.bits a ||| BitVec.ofInt k.bits b).toNat)
  | .xor => some (k.wrap (BitVec.ofInt k.bits a ^^^ BitVec.ofInt k.bits b).toNat)
  | .andNot => some (k.wrap (BitVec.ofInt k.bits a &&& ~~~ BitVec.ofInt k.bits b).toNat)
  | .quo => if b = 0 then none else some (k.wrap (a.tdiv b))
  | .rem => if b = 0 then none else some (a.tmod b)
  | _ => none
def shA (op : BinOp) (k : IntKind) (a b : Int) : Option Int :=
  match op with
  | .shl => if b < 0 then none else some (k.wrap (a * 2 ^ (min b.toNat k.bits)))
  | .shr => if b < 0 then none else some (a.fdiv (2 ^ (min b.toNat k.bits)))
  | _ => none
def cmpA (op : BinOp) (a b : Int) : Option Bool :=
  match op with
  | .eql => some (a == b) | .neq => some (a != b)
  | .lss => some (decide (a < b)) | .leq => some (decide (a ≤ b)) | .gtr => some (decide (a > b)) | .geq => some (decide (a ≥ b))
  | _ => none
def isCmp : BinOp → Bool
  | .eql | .neq | .lss | .leq | .gtr | .geq => true
  | _ => false
def isSh : BinOp → Bool
  | .shl | .shr => true
  | _ => false
def catA (x y : ByteArray) : Option ByteArray := if x.size + y.size ≤ 9223372036854775807 then some (x ++ y) else none
def cmpS (op : BinOp) (x y : ByteArray) : Option Bool :=
  match op with
  | .eql => some (decide (x = y)) | .neq => some (!decide (x = y))
  | .lss => some (Op.bytesLess x.toList y.toList) | .leq => some (Op.bytesLess x.toList y.toList || decide (x = y))
  | .gtr => some (!(Op.bytesLess x.toList y.toList || decide (x = y))) | .geq => some (!Op.bytesLess x.toList y.toList)
  | _ => none
def unA (op : UnOp) (x : Value) : Option Value :=
  match op, x with
  | .neg, .int k n => some (.int k (k.wrap (0 - n)))
  | .not, .bool b => some (.bool !b)
  | _, _ => none

end Go.Abs
namespace Go.Abs

structure Env where
  P : Program
  prim : Nat → Option (Hnd → Nat → List Value → AH → R)
  cut : Nat → List Nat → Option Nat
  hide : Nat → Nat → Bool

/-- is a type one of several cells? none: there is no such type -/
def aggK (P : Program) (t : TypeId) : Option (Option Nat) :=
  match P.underlying t with
  | none => none
  | some (.struct _) | some (.array ..) => some (some (sizeT P t))
  | some _ => some none
/-- the size that stands with a new variable: of one that holds its own address, a tag with its type -/
def szC (P : Program) (t : TypeId) : Nat := if sizeT P t < 4294967296 then sizeT P t else 0
def tagged (P : Program) (t : TypeId) : Bool := match P.underlying t with | some (.struct fs) => (fs[0]?.map (·.name)) == some "addr" | _ => false
def szA (P : Program) (t : TypeId) : Nat := if tagged P t then 4294967296 * (t + 1) else szC P t
/-- the number that stands with a row of elements: of bytes, with their type -/
def tgE (P : Program) (e : TypeId) (sz : Nat) : Nat := match P.underlying e with | some (.int .u8) => 4294967296 * (e + 1) + sz | _ => sz
def sizeO (P : Program) (t : TypeId) : Option Nat := (P.info? t).map (·.size)
def zeroOf (P : Program) (t : TypeId) : Option Value := (P.info? t).bind (·.zero)
def bytesT (P : Program) (t : TypeId) : Nat := match P.info? t with | some i => i.bytes | none => 0
def fieldOf (P : Program) (s : TypeId) (f : Nat) : Option (Nat × TypeId) :=
  match P.underlying s with
  | some (.struct fs) => (fs[f]?).map fun f => (f.offset, f.type)
  | _ => none
def addOff (v : Value) (n : Nat) : Option Value :=
  match v with
  | .pointer (some ⟨id, off, some g⟩) => some (.pointer (some ⟨id, off + n, some g⟩))
  | _ => none
def elemT (P : Program) (t : TypeId) : Option TypeId := match P.underlying t with | some (.slice e) => some e | _ => none
/-- an array's length, and the size of what it holds -/
def arrT (P : Program) (t : TypeId) : Option (Nat × Nat) := match P.underlying t with | some (.array m e) => (match sizeO P e with | some sz => some (m, sz) | none => none) | _ => none
def ixArr (v : Value) (n : Int) (m sz : Nat) : Option Value := if 0 ≤ n ∧ n < m then addOff v (n.toNat * sz) else none
def fillA (place : Nat → Option (Nat × Nat)) (cells : List Value) : List (Nat × Value) → Option (List Value)
  | [] => some cells
  | (i, v) :: rest =>
    match place i with
    | none => none
    | some (off, size) => if v.cells.size = size ∧ off + size ≤ cells.length then fillA place (setMany cells off v.cells.toList) rest else none
def isIface (P : Program) (t : TypeId) : Bool := match P.underlying t with | some (.interface _) => true | none => true | _ => false
def nonNil : Value → Option Value
  | .pointer none | .nilIface | .nilFunc => none
  | .func (.method _) _ _ => none
  | v => some v
def eqOk (P : Program) (t : TypeId) (x : Value) : Bool := match x with | .agg _ => !P.eqGuardType P.depth t | _ => true
def binK (P : Program) (op : BinOp) (t : TypeId) (x y : Value) (act : Option Bool) (K : Value → R) : R :=
  match x, y with
  | .int k a, .int k' b =>
    match isCmp op with
    | true => if k = k' then oE act (cmpA op a b) false fun q => K (.bool q) else none
    | false => match isSh op with
      | true => oE act (shA op k a b) 0 fun n => K (.int k n)
      | false => if k = k' then oE act (arA op k a b) 0 fun n => K (.int k n) else none
  | .string a, .string b =>
    match isCmp op with
    | true => oE act (cmpS op a b) false fun q => K (.bool q)
    | false => match op with | .add => oE act (catA a b) ⟨#[]⟩ fun s => K (.string s) | _ => none
  | x, y =>
    match op with
    | .eql => chk (eqOk P t x) <| oE act (eqA P 50 t x y) false fun q => K (.bool q)
    | .neq => chk (eqOk P t x) <| oE act (eqA P 50 t x y) false fun q => K (.bool (!q))
    | _ => none
def convNum (P : Program) (dst : TypeId) (n : Int) : Option Value :=
  match P.underlying dst with
  | some (.int k) => some (.int k (k.wrap n))
  | some .string => some (.string (Utf8.encode n))
  | _ => none
def tupAt (v : Value) (i : Nat) : Option Value := match v with | .tuple vs => vs.toList[i]? | _ => none
def aggOf (v : Value) : Option (List Value) := match v with | .agg cs => some cs.toList | _ => none
def minmax (isMin : Bool) : List Value → Option Value
  | [.int k x, .int k' y] => if k = k' then some (.int k (if isMin then (if y < x then y else x) else (if y > x then y else x))) else none
  | _ => none

def mk2 (act : Option Bool) (v : Value) (h' h : AH) (K : Slot → AH → R) : R :=
  heapE act (some (v, h')) (undef, h) fun p => K (mkS act p.1) p.2
/-- one operation; what it yields is handed to K -/
def opK (V : Env) (C : Hnd) (lim : Nat) (pan : Value → AH → R) (fr : Frm) (h : AH) (o : Oper) (act : Option Bool) (K : Slot → AH → R) : R :=
  let P := V.P
  let raw (x : Option Value) : R := oE act x undef fun v => K (mkS act v) h
  match o.op with
  | .move x | .assign x => use act (slot fr x) fun v => K (mkS act v) h
  | .pick c a b => use act (slot fr c) fun vc =>
    match vc with
    | .bool q => useG act (pickG q (slot fr a).g (slot fr b).g) (K (mkS act (pickV q (slot fr a).v (slot fr b).v)) h)
    | _ => none
  | .alloc t =>
    match zeroOf P t with
    | some z => chk (z.cells.toList.all flat0) <| mk2 act (newP h) (h ++ [.row 0 (szA P t) z.cells.toList]) h K
    | none => none
  | .box t x => use act (slot fr x) fun v => noTup v <| mk2 act (newP h) (h ++ [.row 0 (szC P t) v.cells.toList]) h K
  | .build t ps => useL act (ps.toList.map fun p => slot fr p.2) fun vs =>
    match zeroOf P t, P.underlying t with
    | some z, some (.struct fs) => chk (z.cells.toList.all flat0 && fs.toList.all fun f => (P.info? f.type).isSome) <| noTups vs <| oE act (fillA (fun i => (fs[i]?).map fun f => (f.offset, sizeT P f.type)) z.cells.toList ((ps.toList.map (·.1)).zip vs)) [] fun cs => K (mkS act (.agg cs.toArray)) h
    | _, _ => none
  | .buildSlice t len ps => useL act (ps.toList.map fun p => slot fr p.2) fun vs =>
    match elemT P t with
    | some e =>
      match zeroOf P e with
      | some z =>
        let sz := sizeT P e
        if sz = z.cells.size ∧ (0 < sz ∧ sz < 4294967296) ∧ len * sz ≤ 2 ^ 24 ∧ z.cells.toList.all flat0 = true then
        noTups vs <| oE act (fillA (fun i => some (i * sz, sz)) (repL len z.cells.toList) ((ps.toList.map (·.1)).zip vs)) [] fun cs => mk2 act (newS h len len) (h ++ [.row 0 (tgE P e sz) cs]) h K
        else none
      | none => none
    | none => none
  | .load t a => use act (slot fr a) fun p =>
    match aggK P t with
    | some (some n) => oE act (ldN h p n) [] fun l => K (mkS act (.agg l.toArray)) h
    | some none => oE act (ld h p) (dflt1 P t) fun v => ty1 P t v fun v => K (mkS act v) h
    | none => none
  | .store t a x => use act (slot fr a) fun p => use act (slot fr x) fun v =>
    match aggK P t with
    | some (some n) => heapE act ((aggOf v).bind fun cs => if cs.length = n then stN lim h p cs else none) h fun h => K (mkS act undef) h
    | some none => if sizeO P t = some 1 then heapE act (stN lim h p [v]) h fun h => K (mkS act undef) h else none
    | none => none
  | .nilCheck x => use act (slot fr x) fun v => oE act (nonNil v) v fun v => K (mkS act v) h
  | .binOp op t x y _ => use act (slot fr x) fun a => use act (slot fr y) fun b => binK P op t a b act fun v => K (mkS act v) h
  | .unOp op _ x => use act (slot fr x) fun a => raw (unA op a)
  | .convert src dst x => use act (slot fr x) fun v =>
    match P.underlying src, P.underlying dst with
    | some (.int _), _ => asInt2 v fun n => raw (convNum P dst n)
    | some .string, some .string => asStr v fun s => K (mkS act (.string s)) h
    | some (.slice e), some .string => match P.underlying e with | some (.int .u8) => oE act (b2s h v) ⟨#[]⟩ fun s => K (mkS act (.string s)) h | _ => none
    | some .string, some (.slice e) =>
      match P.underlying e with
      | some (.int .u8) => asStr v fun s => mk2 act (newS h s.size s.size) (h ++ [.row 0 (tgE P e 1) (s.data.toList.map fun b => .int .u8 b.toNat)]) h K
      | _ => none
    | _, _ => none
  | .makeInterface t x => use act (slot fr x) fun v => if isIface P t then none else K (mkS act (.iface t v)) h
  | .makeFunc fn first caps => useL act (first.toList.map (slot fr)) fun a => useL act (caps.toList.map (slot fr)) fun b => K (mkS act (.func fn a.toArray b.toArray)) h
  | .makeSlice t l c => use act (slot fr l) fun vl => use act (slot fr c) fun vc =>
    match vl, vc, elemT P t with
    | .int _ n, .int _ m, some e =>
      match zeroOf P e with
      | some z =>
        if 0 ≤ n ∧ n ≤ m ∧ m ≤ 9223372036854775807 ∧ bytesT P e * m ≤ 2 ^ 47 ∧ sizeT P e = z.cells.size ∧ (0 < sizeT P e ∧ sizeT P e < 4294967296) ∧ z.cells.toList.all flat0 = true then mk2 act (newS h n.toNat n.toNat) (h ++ [.row 0 (tgE P e (sizeT P e)) (repL n.toNat z.cells.toList)]) h K else none
      | none => none
    | _, _, _ => none
  | .slice t x lo hi mx => chk (mx.isNone || hi.isSome) <| use act (slot fr x) fun v => useO act fr lo fun l => useO act fr hi fun m => useO act fr mx fun k =>
    match P.underlying t with
    | some .string => asStr v fun s => match k with | none => oE act (strCut s (l.getD 0) (m.getD s.size)) ⟨#[]⟩ fun s => K (mkS act (.string s)) h | some _ => none
    | some (.slice e) => match sizeO P e with
      | some sz => oE act (slCut h v l m k sz) (.slice none 0 0) fun v => K (mkS act v) h
      | none => none
    | _ => none
  | .fieldAddr s x f => use act (slot fr x) fun v =>
    match fieldOf P s f with
    | some (off, t) => if sizeT P t = 0 then none else oE act (addOff v off) v fun v => K (mkS act v) h
    | none => none
  | .field s x f => use act (slot fr x) fun v =>
    match fieldOf P s f with
    | some (off, t) => oE act ((aggOf v).bind fun cs => partA P t cs off) undef fun v => ty1 P t v fun v => K (mkS act v) h
    | none => none
  | .indexAddr t x i => use act (slot fr x) fun v => use act (slot fr i) fun vi =>
    match vi, (elemT P t).bind (sizeO P) with
    | .int _ n, some sz => oE act (ixAddr v n sz) v fun v => K (mkS act v) h
    | .int _ n, none => (match arrT P t with | some p => oE act (ixArr v n p.1 p.2) v fun v => K (mkS act v) h | none => none)
    | _, _ => none
  | .index t x i => use act (slot fr x) fun v => use act (slot fr i) fun vi =>
    match vi, P.underlying t with
    | .int _ n, some .string => asStr v fun s => oE act (strAt s n) 0 fun b => K (mkS act (.int .u8 b)) h
    | _, _ => none
  | .extract t i => use act (slot fr t) fun v => raw (tupAt v i)
  | .typeAssert x _ asserted ok => use act (slot fr x) fun v =>
    match v, isIface P asserted, zeroOf P asserted with
    | .iface t w, false, some z =>
      if t = asserted then K (mkS act (if ok then .tuple #[w, .bool true] else w)) h
      else if ok = true ∧ flat z = true then K (mkS act (.tuple #[z, .bool false])) h else none
    | .nilIface, false, some z => if ok = true ∧ flat z = true then K (mkS act (.tuple #[z, .bool false])) h else none
    | _, _, _ => none
  | .panic x => use act (slot fr x) fun v => match v, act with | .iface .., none => pan v h | _, _ => none
  | .call c =>
    match c.callee with
    | .builtin b => chk (Nat.ble c.args.size c.argTypes.size && Nat.ble c.argTypes.size 2) <| useL act (c.args.toList.map (slot fr)) fun vs =>
      match b, vs with
      | .len, [v] => (match P.underlying (c.argTypes.getD 0 0) with
        | some .string => asStr v fun s => K (mkS act (.int .i64 s.size)) h
        | some (.slice _) => oE act (lenV v) 0 fun n => K (mkS act (.int .i64 n)) h
        | _ => none)
      | .append, [s, x] =>
        (match elemT P (c.argTypes.getD 0 0), P.underlying (c.argTypes.getD 1 0) with
        | _, some (.int _) => none
        | some e, some _ => (match P.info? e with
          | some i => (match i.zero with
            | some z => if z.cells.size = i.size ∧ (0 < i.bytes ∧ (0 < i.size ∧ i.size < 4294967296)) then heapE act (app lim h s x i.size (tgE P e i.size) i.bytes) (s, h) fun r => K (mkS act r.1) r.2 else none
            | none => none)
          | none => none)
        | _, _ => none)
      | .copy, [d, x] => (match (elemT P (c.argTypes.getD 0 0)).bind (sizeO P) with
        | some sz => heapE act (copyA lim h d x sz) (0, h) fun r => K (mkS act (.int .i64 r.1)) r.2
        | none => none)
      | .clear, [d] => (match elemT P (c.argTypes.getD 0 0) with
        | some e => (match zeroOf P e with
          | some z => if z.cells.size = sizeT P e ∧ z.cells.toList.all flat0 = true then heapE act (clearA lim h d z.cells.toList) h fun h => K (mkS act undef) h else none
          | none => none)
        | none => none)
      | .unsafeSliceData, [v] => raw (dataP v)
      | .unsafeString, [p, n] => (match n, P.underlying (c.argTypes.getD 0 0) with
        | .int .i64 k, some (.pointer e) => if P.cellsOf e = 1 then heapE act (strRow lim h p k e) (⟨#[]⟩, h) fun r => K (mkS act (.string r.1)) r.2 else none
        | _, _ => none)
      | .min, [a, b] => raw (minmax true [a, b])
      | .max, [a, b] => raw (minmax false [a, b])
      | _, _ => none
    | .value f => use act (slot fr f) fun vf => useL act (c.args.toList.map (slot fr)) fun vs =>
      match vf with
      | .func (.func g) first caps => callE act (C (.fn g) lim ((first.toList ++ vs ++ caps.toList).map S) h) (dflt P o.type) h (fun v h => ty P o.type v fun v => K (mkS act v) h) pan
      | _ => none
    | .invoke .. => none
  | _ => none
where
  asInt2 (v : Value) (X : Int → R) : R := match v with | .int _ n => X n | _ => none

def gAct (s : Slot) (want : Bool) (X : Bool → R) : R :=
  match s.v with
  | .bool b => match s.u with
    | true => X (match s.g with | true => eqW b want | false => false)
    | false => chk s.g (X (eqW b want))
  | _ => none

/-- operations in the text's order -/
def regN (V : Env) (C : Hnd) (lim : Nat) (pan : Value → AH → R) (ops : Array Oper) : List Oper → Frm → AH → (Frm → AH → R) → R
  | [], fr, h, K => K fr h
  | o :: os, fr, h, K =>
    match o.guard with
    | none => opK V C lim pan fr h o none fun s h => regN V C lim pan ops os (put fr o.dst s) h K
    | some (j, w) =>
      match (ops[j]?).bind (·.dst) with
      | some d => gAct (fr.getD d E) w fun a => opK V C lim pan fr h o (some a) fun s h => regN V C lim pan ops os (put fr o.dst s) h K
      | none => none

/-! ### regions that draw their order -/
def isL (P : Program) (o : Oper) : Bool :=
  match o.op with
  | .load .. | .lookup .. => true
  | .slice t .. => match P.underlying t with | some (.slice _) => true | _ => false
  | .convert a b _ => match P.underlying a, P.underlying b with | some (.slice _), some .string => true | _, _ => false
  | _ => false
def isA (_P : Program) (o : Oper) : Bool :=
  match o.op with
  | .store .. | .mapUpdate .. | .insert .. | .panic _ => true
  | .call c => (match c.callee with | .builtin b => (match b with | .append | .copy | .clear | .unsafeString => true | _ => false) | _ => true)
  | _ => false
/-- makes memory, and looks at none -/
def isN (P : Program) (o : Oper) : Bool :=
  match o.op with
  | .alloc _ | .box .. | .buildSlice .. | .makeMap .. | .makeSlice .. => true
  | .convert a b _ => match P.underlying a, P.underlying b with | some .string, some (.slice _) => true | _, _ => false
  | _ => false
/-- the ancestors of each operation, as bits -/
def ancs : List Oper → List Nat → List Nat
  | [], acc => acc
  | o :: os, acc => ancs os (acc ++ [o.after.toList.foldl (fun s e => if Region.binds .any e then s ||| 2 ^ e.on ||| acc.getD e.on 0 else s) 0])
def ordd (an : List Nat) (i j : Nat) : Bool := (an.getD i 0).testBit j || (an.getD j 0).testBit i
/-- an order of the operations: what neither calls nor writes nor makes memory comes as early as it may; what makes memory only before what needs it -/
def readyI (ops : Array Oper) (done : List Nat) (f : Nat → Oper → Bool) : Option Nat :=
  (List.range ops.size).find? fun i => !done.contains i && ((ops[i]?).map fun o => f i o && o.after.toList.all fun e => !Region.binds .any e || done.contains e.on).getD false
/-- the first that calls or writes, all before which that do so are done -/
def nextA (P : Program) (ops : Array Oper) (an : List Nat) (done : List Nat) : Option Nat :=
  (List.range ops.size).find? fun i => !done.contains i && ((ops[i]?).map (isA P)).getD false && (List.range ops.size).all fun j => !((an.getD i 0).testBit j && ((ops[j]?).map (isA P)).getD false) || done.contains j
def ordF (P : Program) (ops : Array Oper) (an : List Nat) : Nat → List Nat → List Nat
  | 0, done => done
  | n + 1, done =>
    match readyI ops done (fun _ o => !isA P o && !isN P o) with
    | some i => ordF P ops an n (done ++ [i])
    | none =>
      match nextA P ops an done with
      | some k =>
        match readyI ops done (fun i o => isN P o && (an.getD k 0).testBit i) with
        | some i => ordF P ops an n (done ++ [i])
        | none => match readyI ops done (fun i _ => i == k) with
          | some i => ordF P ops an n (done ++ [i])
          | none => done
      | none => match readyI ops done (fun _ o => !isA P o) with
        | some i => ordF P ops an n (done ++ [i])
        | none => done
def topo (ops : Array Oper) : List Nat → List Nat → Bool
  | [], _ => true
  | i :: is, done => ((ops[i]?).map fun o => o.after.toList.all fun e => !Region.binds .any e || done.contains e.on).getD false && topo ops is (done ++ [i])
def drawOk (ops : Array Oper) (an : List Nat) (ord : List Nat) : Bool :=
  decide ord.Nodup && ord.all (fun i => decide (i < ops.size)) && topo ops ord [] &&
  (List.range ops.size).all fun j =>
    ord.contains j &&
    (match ops[j]? with
      | some o => o.after.toList.all (fun e => !Region.binds .any e || decide (e.on < j)) && (match o.guard with | none => true | some (k, _) => (an.getD j 0).testBit k) && (match o.op with | .select .. => false | _ => true)
      | none => false) &&
    (List.range j).all fun i => (an.getD j 0).testBit i || (match ops[i]?, ops[j]? with | some a, some b => a.apart ops b | _, _ => false)
/-- of a list, all that is unordered with i and of a kind -/
def unord (P : Program) (ops : Array Oper) (an : List Nat) (i : Nat) (f : Program → Oper → Bool) (l : List Nat) : List Nat :=
  l.filter fun j => decide (j ≠ i) && ((ops[j]?).map (f P)).getD false && !ordd an i j
/-- what a region that draws has done: the operation, how many objects there were before and behind it, what it looked at -/
structure Did where
  mk ::
  (i n m : Nat)
  (b : Option Nat)
def ids (l : List Did) : List Nat := l.map (·.i)
def baseId : Value → Option Nat
  | .pointer (some a) => some a.block
  | .slice (some a) _ _ => some a.block
  | .map (some i) => some i
  | _ => none
def baseOf (P : Program) (fr : Frm) (o : Oper) : Option Nat :=
  match isL P o with
  | true => match o.op.operands.toList with
    | x :: _ => baseId (slot fr x).v
    | [] => none
  | false => none
open Classical in
/-- what was looked at is as it was -/
noncomputable def sameAt (h h' : AH) (X : R) : List Did → R
  | [] => X
  | d :: ds => match d.b with
    | some b => if h'[b]? = h[b]? then sameAt h h' X ds else none
    | none => sameAt h h' X ds
def freshAt (b : Nat) (X : R) : List Did → R
  | [] => X
  | d :: ds => if d.m ≤ b then freshAt b X ds else none
def otherAt (b : Nat) (X : R) : List Did → R
  | [] => X
  | d :: ds => if b = d.n then none else otherAt b X ds
/-- of what is done, all that is unordered with i and of a kind -/
def unordD (P : Program) (ops : Array Oper) (an : List Nat) (i : Nat) (f : Program → Oper → Bool) (l : List Did) : List Did :=
  l.filter fun d => decide (d.i ≠ i) && ((ops[d.i]?).map (f P)).getD false && !ordd an i d.i
/-- how an operation of a region that draws is carried out -/
noncomputable def dOp (V : Env) (C : Hnd) (lim : Nat) (hide : Bool) (ops : Array Oper) (an : List Nat) (done : List Did) (i : Nat) (o : Oper) (act : Option Bool) (fr : Frm) (h : AH) (K : Slot → AH → R) : R :=
  let pan : Value → AH → R := fun _ _ => none
  match isN V.P o, isA V.P o, isL V.P o with
  | true, _, _ => opK V C lim pan fr h o act K
  | false, true, _ =>
    match unord V.P ops an i isA (List.range ops.size), unordD V.P ops an i isN done with
    | [], [] =>
      match unordD V.P ops an i isL done with
      | [] => opK V C lim pan fr h o act K
      | ls => match hide with
        | false => opK V C h.length pan fr h o act K
        | true => opK V C lim pan fr h o act fun s h' => sameAt h h' (K s h') ls
    | _, _ => none
  | false, false, true =>
    match unordD V.P ops an i isA done, unordD V.P ops an i isN done with
    | [], [] => opK V C lim pan fr h o act K
    | ac, ns => match baseOf V.P fr o with
      | some b => freshAt b (otherAt b (opK V C lim pan fr h o act K) ns) ac
      | none => none
  | false, false, false => opK V C lim pan fr h o act K
noncomputable def regD (V : Env) (C : Hnd) (lim : Nat) (hide : Bool) (ops : Array Oper) (an : List Nat) : List Nat → Frm → List Did → AH → (Frm → AH → R) → R
  | [], fr, _, h, K => K fr h
  | i :: is, fr, done, h, K =>
    match ops[i]? with
    | some o =>
      match o.guard with
      | none => dOp V C lim hide ops an done i o none fr h fun s h' => regD V C lim hide ops an is (put fr o.dst s) (done ++ [⟨i, h.length, h'.length, baseOf V.P fr o⟩]) h' K
      | some (j, w) =>
        match (ops[j]?).bind (·.dst) with
        | some d => gAct (fr.getD d E) w fun a => dOp V C lim hide ops an done i o (some a) fr h fun s h' => regD V C lim hide ops an is (put fr o.dst s) (done ++ [⟨i, h.length, h'.length, baseOf V.P fr o⟩]) h' K
        | none => none
    | none => none

/-! ### code -/
structure Conts where
  n : Frm → AH → R
  x : Nat → Frm → AH → R

def eraseFrom (live : Nat) : Nat → Frm → Frm
  | _, [] => []
  | i, s :: fr => (match live.testBit i with | true => s | false => E) :: eraseFrom live (i + 1) fr
def erase (live : Option Nat) (fr : Frm) : Frm := match live with | some l => eraseFrom l 0 fr | none => fr
noncomputable def seqK (V : Env) (C : Hnd) (f lim : Nat) (p : List Nat) (X : Frm → AH → R) (fr : Frm) (h : AH) : R :=
  match V.cut f p with
  | some l => C (.code f p) lim (erase (some l) fr) h
  | none => X fr h
def onCond (s : Slot) (A B : R) : R := match s.v with | .bool b => chk s.g (match b with | true => A | false => B) | _ => none

noncomputable def exec (V : Env) (C : Hnd) (f lim : Nat) (ret : Frm → AH → R) (pan : Value → AH → R) : Code → List Nat → Conts → Frm → AH → R
  | .skip, _, K, fr, h => K.n fr h
  | .region id ops d, _, K, fr, h =>
    match d with
    | false => regN V C lim pan ops ops.toList fr h K.n
    | true =>
      let an := ancs ops.toList []
      let ord := ordF V.P ops an ops.size []
      match drawOk ops an ord with
      | true => regD V C lim (V.hide f id) ops an ord fr [] h K.n
      | false => none
  | .seq a b, p, K, fr, h => exec V C f lim ret pan a (p ++ [0]) { K with n := seqK V C f lim (p ++ [1]) (exec V C f lim ret pan b (p ++ [1]) K) } fr h
  | .cond c a b, p, K, fr, h => onCond (slot fr c) (exec V C f lim ret pan a (p ++ [0]) K fr h) (exec V C f lim ret pan b (p ++ [1]) K fr h)
  | .block id b, p, K, fr, h => exec V C f lim ret pan b (p ++ [0]) { n := K.n, x := fun i => if i = id then K.n else K.x i } fr h
  | .loop _, p, _, fr, h => C (.code f p) lim (erase (V.cut f p) fr) h
  | .exit i, _, K, fr, h => K.x i fr h
  | .ret, _, _, fr, h => ret fr h
  | _, _, _, _, _ => none

/-- the code at a place, and what follows it -/
structure At where
  c : Code
  p : List Nat
  K : Conts
noncomputable def At.sub (V : Env) (C : Hnd) (f lim : Nat) (ret : Frm → AH → R) (pan : Value → AH → R) (a : At) (i : Nat) : Option At :=
  match a.c, i with
  | .seq x y, 0 => some ⟨x, a.p ++ [0], { a.K with n := seqK V C f lim (a.p ++ [1]) (exec V C f lim ret pan y (a.p ++ [1]) a.K) }⟩
  | .seq _ y, 1 => some ⟨y, a.p ++ [1], a.K⟩
  | .cond _ x _, 0 => some ⟨x, a.p ++ [0], a.K⟩
  | .cond _ _ y, 1 => some ⟨y, a.p ++ [1], a.K⟩
  | .block id b, 0 => some ⟨b, a.p ++ [0], { n := a.K.n, x := fun i => if i = id then a.K.n else a.K.x i }⟩
  | .loop b, 0 => some ⟨b, a.p ++ [0], { a.K with n := fun fr h => C (.code f a.p) lim (erase (V.cut f a.p) fr) h }⟩
  | _, _ => none
noncomputable def At.go (V : Env) (C : Hnd) (f lim : Nat) (ret : Frm → AH → R) (pan : Value → AH → R) : List Nat → At → Option At
  | [], a => some a
  | i :: is, a => match At.sub V C f lim ret pan a i with | some a => At.go V C f lim ret pan is a | none => none
def ldT (P : Program) (h : AH) (t : TypeId) (v : Value) : Option Value :=
  match aggK P t with
  | some (some n) => (ldN h v n).map fun (l : List Value) => Value.agg l.toArray
  | some none => ld h v
  | none => none
def retL : List ResultVar → Frm → AH → Program → Option (List Value)
  | [], _, _, _ => some []
  | .tmp t :: rs, fr, h, P => match (fr.getD t E).g with | true => (retL rs fr h P).map ((fr.getD t E).v :: ·) | false => none
  | .cell a t :: rs, fr, h, P =>
    match (fr.getD a E).g with
    | true => (ldT P h t (fr.getD a E).v).bind fun v => (retL rs fr h P).map (v :: ·)
    | false => none
def retK (P : Program) (F : Func) (fr : Frm) (h : AH) : R :=
  (retL F.results.toList fr h P).bind fun vs => match vs with | [v] => some (.ret v h) | vs => some (.ret (.tuple vs.toArray) h)
def panK (v : Value) (h : AH) : R := some (.pan v h)

noncomputable def step (V : Env) (C : Hnd) : Hnd
  | .fn f, lim, fr, h =>
    match V.prim f with
    | some p => p C lim (fr.map (·.v)) h
    | none =>
      match V.P.funcs[f]? with
      | some F =>
        match F.body with
        | some c => exec V C f lim (retK V.P F) panK c [] ⟨retK V.P F, fun _ _ _ => none⟩ (fr ++ List.replicate (F.ntmps - fr.length) E) h
        | none => none
      | none => none
  | .code f p, lim, fr, h =>
    match V.P.funcs[f]? with
    | some F =>
      match F.body with
      | some c =>
        match At.go V C f lim (retK V.P F) panK p ⟨c, [], ⟨retK V.P F, fun _ _ _ => none⟩⟩ with
        | some a =>
          match a.c with
          | .loop b => exec V C f lim (retK V.P F) panK b (a.p ++ [0]) { a.K with n := fun fr h => C (.code f a.p) lim (erase (V.cut f a.p) fr) h } fr h
          | c => exec V C f lim (retK V.P F) panK c a.p a.K fr h
        | none => none
      | none => none
    | none => none

noncomputable def runN (V : Env) : Nat → Hnd
  | 0 => fun _ _ _ _ => none
  | k + 1 => step V (runN V k)

end Go.Abs
namespace Go.Abs
open Go.Proofs Go.RowKit
/-- an error's variable: nil or something -/
def ErrVar (g : Nat) (w : World) : Prop := ∃ ev, w.cell? ⟨g, 0, none⟩ = some ev ∧ (ev = .nilIface ∨ ∃ te pe, ev = .iface te pe)
theorem ErrVar.below {g : Nat} {w w' : World} (h : ErrVar g w) (hb : Below w.heap.size w w') : ErrVar g w' := by
  obtain ⟨ev, e, q⟩ := h
  refine ⟨ev, ?_, q⟩
  have hlt : g < w.heap.size := by
    rcases Nat.lt_or_ge g w.heap.size with q | q
    · exact q
    · simp [World.cell?, Array.getElem?_eq_none q] at e
  have := hb.block g hlt
  unfold World.cell? at e ⊢
  simp only [this]
  exact e
theorem tab_below {P : Program} {n : String} {g : Nat} {k : IntKind} {zs : List Int} {w w' : World} (hg : P.globalNamed n = some g) (h : Lib.TabIs P w n k zs) (hb : Below w.heap.size w w') : Lib.TabIs P w' n k zs := by
  unfold Lib.TabIs World.var? at h ⊢
  rw [hg] at h ⊢
  simp only [Option.bind_some] at h ⊢
  have hlt : g < w.heap.size := by
    rcases Nat.lt_or_ge g w.heap.size with h' | h'
    · exact h'
    · rw [Array.getElem?_eq_none h'] at h; cases h
  rw [hb.block g hlt]
  exact h
/-- what more is known of the library's own variables: tables, errors -/
structure Glob2 (w : World) : Prop where
  utf : Lib.Utf8Tabs 4 5 w
  pow : Lib.TabIs Tryz.prog w "internal/strconv.uint64pow10" .u64 Lib.pow10Tab
  syn : ErrVar 2 w
  rng : ErrVar 3 w
theorem Glob2.below {w w' : World} (h : Glob2 w) (hb : Below w.heap.size w w') : Glob2 w' :=
  ⟨Utf8Tabs_below h.utf hb, tab_below (g := 0) (by kernel_rfl) h.pow hb, h.syn.below hb, h.rng.below hb⟩
end Go.Abs
namespace Go.Abs
open Go.RowKit

/-- where an object lies: its block, where it begins there, how many cells the block has -/
structure Loc where
  b : Nat
  o : Nat
  top : Nat
abbrev Iota := Nat → Loc

def live (h : AH) (id : Nat) : Prop := (∃ g sz cs, h[id]? = some (.row g sz cs)) ∨ ∃ es, h[id]? = some (.map es)

inductive VR (ι : Iota) (h : AH) : Value → Value → Prop
  | bool (b : Bool) : VR ι h (.bool b) (.bool b)
  | int (k : IntKind) (n : Int) : VR ι h (.int k n) (.int k n)
  | str (s : ByteArray) : VR ι h (.string s) (.string s)
  | nilFunc : VR ι h .nilFunc .nilFunc
  | nilIface : VR ι h .nilIface .nilIface
  | pnil : VR ι h (.pointer none) (.pointer none)
  | ptr {id off g : Nat} {a : Addr} (hid : live h id)
      (hr : ∀ g' sz cs, h[id]? = some (.row g' sz cs) → g ≤ g' ∧ (g = g' → a = ⟨(ι id).b, (ι id).o + off, none⟩)) : VR ι h (.pointer (some ⟨id, off, some g⟩)) (.pointer (some a))
  | snil : VR ι h (.slice none 0 0) (.slice none 0 0)
  | slice {id off g n c c' : Nat} {a : Addr} (hid : live h id) (hn : n ≤ c') (hc : c ≤ c')
      (hr : ∀ g' sz cs, h[id]? = some (.row g' sz cs) → g ≤ g' ∧ (g = g' → (c' = 0 ∨ a = ⟨(ι id).b, (ι id).o + off, none⟩) ∧ (ι id).o + off + c' * wd sz ≤ (ι id).top)) :
      VR ι h (.slice (some ⟨id, off, some g⟩) n c) (.slice (some a) n c')
  | mnil : VR ι h (.map none) (.map none)
  | map {id r : Nat} (hid : live h id) (hr : ∀ es, h[id]? = some (.map es) → r = (ι id).b) : VR ι h (.map (some id)) (.map (some r))
  | func (fn : Fn) {x x' y y' : Array Value} (hx : x.size = x'.size) (hxv : ∀ i (a : i < x.size) (b : i < x'.size), VR ι h x[i] x'[i])
      (hy : y.size = y'.size) (hyv : ∀ i (a : i < y.size) (b : i < y'.size), VR ι h y[i] y'[i]) : VR ι h (.func fn x y) (.func fn x' y')
  | iface (t : TypeId) {v v' : Value} (hv : VR ι h v v') : VR ι h (.iface t v) (.iface t v')
  | agg {x x' : Array Value} (hx : x.size = x'.size) (hxv : ∀ i (a : i < x.size) (b : i < x'.size), VR ι h x[i] x'[i]) (ho : ∀ v ∈ x.toList, oneCell v = true) : VR ι h (.agg x) (.agg x')
  | tuple {x x' : Array Value} (hx : x.size = x'.size) (hxv : ∀ i (a : i < x.size) (b : i < x'.size), VR ι h x[i] x'[i]) : VR ι h (.tuple x) (.tuple x')

structure Compat (ι : Iota) (h : AH) (ι' : Iota) (h' : AH) : Prop where
  len : h.length ≤ h'.length
  keeps : ∀ id, live h id → live h' id
  row : ∀ id, live h id → ∀ g' sz' cs', h'[id]? = some (.row g' sz' cs') → ∃ g sz cs, h[id]? = some (.row g sz cs) ∧ g ≤ g' ∧ (g = g' → sz = sz' ∧ ι' id = ι id)
  map : ∀ id, live h id → ∀ es', h'[id]? = some (.map es') → ∃ es, h[id]? = some (.map es) ∧ ι' id = ι id

theorem Compat.refl (ι : Iota) (h : AH) : Compat ι h ι h :=
  ⟨Nat.le_refl _, fun _ l => l, fun _ _ g' _ cs' e => ⟨g', _, cs', e, Nat.le_refl _, fun _ => ⟨rfl, rfl⟩⟩, fun _ _ es' e => ⟨es', e, rfl⟩⟩

theorem Compat.trans {ι h ι1 h1 ι2 h2} (a : Compat ι h ι1 h1) (b : Compat ι1 h1 ι2 h2) : Compat ι h ι2 h2 := by
  refine ⟨Nat.le_trans a.len b.len, fun id l => b.keeps id (a.keeps id l), fun id hid g' sz' cs' e => ?_, fun id hid es' e => ?_⟩
  · obtain ⟨g1, sz1, cs1, e1, l1, q1⟩ := b.row id (a.keeps id hid) g' sz' cs' e
    obtain ⟨g0, sz0, cs0, e0, l0, q0⟩ := a.row id hid g1 sz1 cs1 e1
    refine ⟨g0, sz0, cs0, e0, Nat.le_trans l0 l1, fun hg => ?_⟩
    have h1 : g1 = g' := by omega
    have h0 : g0 = g1 := by omega
    exact ⟨(q0 h0).1.trans (q1 h1).1, (q1 h1).2.trans (q0 h0).2⟩
  · obtain ⟨es1, e1, q1⟩ := b.map id (a.keeps id hid) es' e
    obtain ⟨es0, e0, q0⟩ := a.map id hid es1 e1
    exact ⟨es0, e0, q1.trans q0⟩

theorem VR.mono {ι h ι' h'} (c : Compat ι h ι' h') {v v' : Value} (r : VR ι h v v') : VR ι' h' v v' := by
  induction r with
  | bool b => exact .bool b
  | int k n => exact .int k n
  | str s => exact .str s
  | nilFunc => exact .nilFunc
  | nilIface => exact .nilIface
  | pnil => exact .pnil
  | ptr hid hr =>
    refine .ptr (c.keeps _ hid) fun g' sz cs e => ?_
    obtain ⟨g0, sz0, cs0, e0, l0, q0⟩ := c.row _ hid g' sz cs e
    obtain ⟨l, q⟩ := hr _ _ _ e0
    refine ⟨by omega, fun hg => ?_⟩
    rw [(q0 (by omega)).2]
    first | exact q (by omega) | (rw [← (q0 (by omega)).1]; exact q (by omega))
  | snil => exact .snil
  | slice hid hn hc hr =>
    refine .slice (c.keeps _ hid) hn hc fun g' sz cs e => ?_
    obtain ⟨g0, sz0, cs0, e0, l0, q0⟩ := c.row _ hid g' sz cs e
    obtain ⟨l, q⟩ := hr _ _ _ e0
    refine ⟨by omega, fun hg => ?_⟩
    rw [(q0 (by omega)).2]
    first | exact q (by omega) | (rw [← (q0 (by omega)).1]; exact q (by omega))
  | mnil => exact .mnil
  | map hid hr =>
    refine .map (c.keeps _ hid) fun es e => ?_
    obtain ⟨es0, e0, q0⟩ := c.map _ hid es e
    rw [q0]
    exact hr _ e0
  | func fn hx _ hy _ ihx ihy => exact .func fn hx ihx hy ihy
  | iface t _ ih => exact .iface t ih
  | agg hx _ ho ih => exact .agg hx ih ho
  | tuple hx _ ih => exact .tuple hx ih

/-- lists of values, place by place -/
def LR (ι : Iota) (h : AH) (xs ys : List Value) : Prop := xs.length = ys.length ∧ ∀ (i : Nat) v, xs[i]? = some v → ∃ v', ys[i]? = some v' ∧ VR ι h v v'

theorem LR.mono {ι h ι' h'} (c : Compat ι h ι' h') {xs ys} (r : LR ι h xs ys) : LR ι' h' xs ys :=
  ⟨r.1, fun i v e => let ⟨v', e', q⟩ := r.2 i v e; ⟨v', e', q.mono c⟩⟩

/-- no variable of a row is shut; none that is not looked at again -/
def Soft (sz : Nat) (cs : List Value) (arr : Array Value) (fr : Nat × Nat) : Prop := 0 < sz ∨ cs ≠ [] → ∀ i, i < arr.size → ¬ (fr.1 ≤ i ∧ i < fr.2)
/-- of which type a row is, where that is known -/
def Tag (sz : Nat) (t : TypeId) (o n len : Nat) : Prop := 4294967296 ≤ sz → sz / 4294967296 = t + 1 ∧ o = 0 ∧ (wd sz = 0 → n = len)
theorem Tag.no {sz t o n len : Nat} (h : sz < 4294967296) : Tag sz t o n len := fun q => absurd q (by omega)
/-- what is known of the library's own variables: each of these is a whole number -/
def Glob (w0 : World) : Prop := (∀ b ∈ ([1] : List Nat), ∃ m, w0.cell? ⟨b, 0, none⟩ = some (.int .i64 m)) ∧ Glob2 w0
structure Rel (w0 : World) (l0 : Nat) (ι : Iota) (h : AH) (w : World) : Prop where
  below : Below w0.heap.size w0 w
  row : ∀ id g sz cs, h[id]? = some (.row g sz cs) → ∃ arr t fr, w.heap[(ι id).b]? = some (.cells arr t fr) ∧ arr.size = (ι id).top ∧
    (∀ (i : Nat) v, cs[i]? = some v → ∃ v', arr[(ι id).o + i]? = some v' ∧ VR ι h v v' ∧ oneCell v = true) ∧
    (l0 ≤ id → w0.heap.size ≤ (ι id).b ∧ Soft sz cs arr fr ∧ Tag sz t (ι id).o arr.size cs.length)
  map : ∀ id es, h[id]? = some (.map es) → w0.heap.size ≤ (ι id).b ∧ ∃ entries clock, w.heap[(ι id).b]? = some (.map entries clock) ∧ entries.size = es.length ∧
    ∀ (i : Nat) k v, es[i]? = some (k, v) → ∃ e : MapEntry, entries[i]? = some e ∧ VR ι h k e.key ∧ VR ι h v e.val
  inj : ∀ i j, i ≠ j → live h i → live h j → l0 ≤ i → (ι i).b ≠ (ι j).b
  glob : Glob w0

/-- what a stretch of a run leaves -/
structure Step (lim : Nat) (ι : Iota) (h : AH) (w : World) (ι' : Iota) (h' : AH) (w' : World) : Prop where
  compat : Compat ι h ι' h'
  ro : ∀ id, id < lim → live h id → h'[id]? = h[id]? ∧ ι' id = ι id
  size : w.heap.size ≤ w'.heap.size
  frame : ∀ b, b < w.heap.size → (∀ id, lim ≤ id → live h id → (ι id).b ≠ b) → w'.heap[b]? = w.heap[b]?
  born : ∀ id, live h' id → (live h id ∧ (ι' id).b = (ι id).b) ∨ w.heap.size ≤ (ι' id).b

theorem live_lt {h : AH} {id : Nat} (l : live h id) : id < h.length := by
  rcases l with ⟨_, _, _, e⟩ | ⟨_, e⟩ <;> exact (List.getElem?_eq_some_iff.1 e).1

theorem Step.refl (lim : Nat) (ι : Iota) (h : AH) (w : World) : Step lim ι h w ι h w :=
  ⟨Compat.refl _ _, fun _ _ _ => ⟨rfl, rfl⟩, Nat.le_refl _, fun _ _ _ => rfl, fun _ l => .inl ⟨l, rfl⟩⟩

theorem Step.trans {lim ι h w ι1 h1 w1 ι2 h2 w2} (a : Step lim ι h w ι1 h1 w1) (b : Step lim ι1 h1 w1 ι2 h2 w2) : Step lim ι h w ι2 h2 w2 := by
  refine ⟨a.compat.trans b.compat, fun id h1' h2' => ?_, Nat.le_trans a.size b.size, fun x hx hn => ?_, fun id l => ?_⟩
  · obtain ⟨p, q⟩ := a.ro id h1' h2'
    obtain ⟨p', q'⟩ := b.ro id h1' (a.compat.keeps id h2')
    exact ⟨p'.trans p, q'.trans q⟩
  · rw [b.frame x (Nat.lt_of_lt_of_le hx a.size) fun id hid l => ?_]
    · exact a.frame x hx hn
    · rcases a.born id l with ⟨l0, e⟩ | e
      · rw [e]; exact hn id hid l0
      · omega
  · rcases b.born id l with ⟨l1, e⟩ | e
    · rw [e]; exact a.born id l1
    · exact .inr (Nat.le_trans a.size e)

end Go.Abs
namespace Go.Abs
open Go.RowKit

theorem rowAt_some {h : AH} {id g : Nat} {r : Nat × List Value} (e : rowAt h id g = some r) : h[id]? = some (.row g r.1 r.2) := by
  unfold rowAt at e
  split at e
  · rename_i g' sz cs hh
    split at e
    · rename_i hg; subst hg; injection e with e; subst e; exact hh
    · cases e
  · cases e

theorem cell_of {w : World} {b : Nat} {arr : Array Value} {t : TypeId} {fr : Nat × Nat} (e : w.heap[b]? = some (.cells arr t fr)) (i : Nat) : w.cell? ⟨b, i, none⟩ = arr[i]? := by
  simp [World.cell?, e]

theorem heap_setCell_same {w : World} {b i : Nat} {arr : Array Value} {t : TypeId} {fr : Nat × Nat} (e : w.heap[b]? = some (.cells arr t fr)) (v : Value) :
    (w.setCell ⟨b, i, none⟩ v).heap[b]? = some (.cells (arr.setIfInBounds i v) t fr) := by
  simp [World.setCell, Array.getElem?_modify, e]

/-- the world is only looked at through its heap and its streams -/
theorem Rel.world {w0 l0 ι h w w'} (r : Rel w0 l0 ι h w) (hh : w'.heap = w.heap) (ho : w'.os = w.os) (ht : w'.tape = w.tape) (hu : w'.output = w.output) : Rel w0 l0 ι h w' := by
  refine ⟨⟨ho.trans r.below.os, ht.trans r.below.tape, hu.trans r.below.output, by rw [hh]; exact r.below.size, fun k hk => by rw [hh]; exact r.below.block k hk⟩, ?_, ?_, r.inj, r.glob⟩
  · rw [hh]; exact r.row
  · rw [hh]; exact r.map

theorem Step.world {lim ι h w w'} (hh : w'.heap = w.heap) : Step lim ι h w ι h w' := by
  refine ⟨Compat.refl _ _, fun _ _ _ => ⟨rfl, rfl⟩, by rw [hh]; exact Nat.le_refl _, fun _ _ _ => by rw [hh], fun _ l => .inl ⟨l, rfl⟩⟩

theorem live_set_ne {h : AH} {id j : Nat} {o : AObj} (hne : j ≠ id) : live (h.set id o) j ↔ live h j := by
  unfold live
  rw [List.getElem?_set_ne (fun e => hne e.symm)]

theorem live_set {h : AH} {id j : Nat} {o : AObj} (ho : (∃ g sz cs, o = .row g sz cs) ∨ ∃ es, o = .map es) (l : live h j) : live (h.set id o) j := by
  by_cases hj : j = id
  · subst hj
    have := List.getElem?_set_self (a := o) (live_lt l)
    rcases ho with ⟨g, sz, cs, rfl⟩ | ⟨es, rfl⟩
    · exact .inl ⟨_, _, _, this⟩
    · exact .inr ⟨_, this⟩
  · exact (live_set_ne hj).2 l

/-- one object is another one now -/
theorem Rel.upd {w0 l0 ι h w} (r : Rel w0 l0 ι h w) {id : Nat} (hid : id < h.length) (hl0 : l0 ≤ id) {o' : AObj} {ι' : Iota} {w' : World}
    (hι : ∀ j, j ≠ id → ι' j = ι j) (hb : Below w0.heap.size w0 w') (hw : ∀ j, j ≠ id → live h j → w'.heap[(ι j).b]? = w.heap[(ι j).b]?)
    (hc : Compat ι h ι' (h.set id o'))
    (hne : ∀ j, j ≠ id → live h j → (ι' id).b ≠ (ι j).b)
    (hrow : ∀ g sz cs, o' = .row g sz cs → w0.heap.size ≤ (ι' id).b ∧ ∃ arr t fr, w'.heap[(ι' id).b]? = some (.cells arr t fr) ∧ arr.size = (ι' id).top ∧
      (∀ (i : Nat) v, cs[i]? = some v → ∃ v', arr[(ι' id).o + i]? = some v' ∧ VR ι' (h.set id o') v v' ∧ oneCell v = true) ∧ Soft sz cs arr fr ∧ Tag sz t (ι' id).o arr.size cs.length)
    (hmap : ∀ es, o' = .map es → w0.heap.size ≤ (ι' id).b ∧ ∃ entries clock, w'.heap[(ι' id).b]? = some (.map entries clock) ∧ entries.size = es.length ∧
      ∀ (i : Nat) k v, es[i]? = some (k, v) → ∃ e : MapEntry, entries[i]? = some e ∧ VR ι' (h.set id o') k e.key ∧ VR ι' (h.set id o') v e.val) :
    Rel w0 l0 ι' (h.set id o') w' := by
  refine ⟨hb, fun j g sz cs e => ?_, fun j es e => ?_, fun i j hij li lj hi => ?_, r.glob⟩
  · by_cases hj : j = id
    · subst hj
      rw [List.getElem?_set_self hid] at e
      injection e with e
      obtain ⟨h1, arr, t, fr, h2, h3, h4, h5⟩ := hrow g sz cs e
      exact ⟨arr, t, fr, h2, h3, h4, fun _ => ⟨h1, h5⟩⟩
    · rw [List.getElem?_set_ne (fun e => hj e.symm)] at e
      obtain ⟨arr, t, fr, h1, h2, h3, h4⟩ := r.row j g sz cs e
      rw [hι j hj]
      refine ⟨arr, t, fr, (hw j hj (.inl ⟨_, _, _, e⟩)).trans h1, h2, fun i v ev => ?_, h4⟩
      obtain ⟨v', q1, q2, q3⟩ := h3 i v ev
      exact ⟨v', q1, q2.mono hc, q3⟩
  · by_cases hj : j = id
    · subst hj
      rw [List.getElem?_set_self hid] at e
      injection e with e
      exact hmap es e
    · rw [List.getElem?_set_ne (fun e => hj e.symm)] at e
      obtain ⟨h0, en, cl, h1, h2, h3⟩ := r.map j es e
      rw [hι j hj]
      refine ⟨h0, en, cl, (hw j hj (.inr ⟨_, e⟩)).trans h1, h2, fun i k v ev => ?_⟩
      obtain ⟨x, q1, q2, q3⟩ := h3 i k v ev
      exact ⟨x, q1, q2.mono hc, q3.mono hc⟩
  · by_cases h1 : i = id
    · subst h1
      rw [hι j (fun e => hij e.symm)]
      exact hne j (fun e => hij e.symm) ((live_set_ne (fun e => hij e.symm)).1 lj)
    · rw [hι i h1]
      by_cases h2 : j = id
      · subst h2
        exact fun e => hne i h1 ((live_set_ne h1).1 li) e.symm
      · rw [hι j h2]
        exact r.inj i j hij ((live_set_ne h1).1 li) ((live_set_ne h2).1 lj) hi

theorem Step.upd {lim ι h w} {id : Nat} (hid : id < h.length) (hl : lim ≤ id) (hlive : live h id) {o' : AObj} {ι' : Iota} {w' : World} (hι : ∀ j, j ≠ id → ι' j = ι j)
    (hc : Compat ι h ι' (h.set id o')) (hs : w.heap.size ≤ w'.heap.size) (hb : (ι' id).b = (ι id).b ∨ w.heap.size ≤ (ι' id).b)
    (hw : ∀ b, b < w.heap.size → b ≠ (ι id).b → w'.heap[b]? = w.heap[b]?) : Step lim ι h w ι' (h.set id o') w' := by
  refine ⟨hc, fun j h1 _ => ⟨List.getElem?_set_ne (by omega), hι j (by omega)⟩, hs, fun b hb' hn => hw b hb' (fun e => hn id hl hlive e.symm), fun j l => ?_⟩
  by_cases e : j = id
  · subst e
    rcases hb with hb | hb
    · exact .inl ⟨hlive, hb⟩
    · exact .inr hb
  · exact .inl ⟨(live_set_ne e).1 l, by rw [hι j e]⟩

/-- a row of the call's own has another cell -/
theorem Rel.set1 {w0 l0 lim ι h w} (r : Rel w0 l0 ι h w) (hl0 : l0 ≤ lim) {id g sz off : Nat} {cs : List Value} (e : h[id]? = some (.row g sz cs)) (hl : lim ≤ id) (ho : off < cs.length)
    {v v' : Value} (hv : VR ι h v v') (h1 : oneCell v = true) :
    w.cell? ⟨(ι id).b, (ι id).o + off, none⟩ ≠ none ∧ w.frozen? ⟨(ι id).b, (ι id).o + off, none⟩ = false ∧
    Rel w0 l0 ι (h.set id (.row g sz (cs.set off v))) (w.setCell ⟨(ι id).b, (ι id).o + off, none⟩ v') ∧
    Step lim ι h w ι (h.set id (.row g sz (cs.set off v))) (w.setCell ⟨(ι id).b, (ι id).o + off, none⟩ v') := by
  have hid : id < h.length := (List.getElem?_eq_some_iff.1 e).1
  obtain ⟨arr, t, fr, p1, p2, p3, p4⟩ := r.row id g sz cs e
  obtain ⟨p5, p60, p7⟩ := p4 (by omega)
  have p6 := p60 (.inr (fun q' => by rw [q'] at ho; exact absurd ho (by simp)))
  obtain ⟨u, q1, _, _⟩ := p3 off _ (List.getElem?_eq_getElem ho)
  have hin : (ι id).o + off < arr.size := (Array.getElem?_eq_some_iff.1 q1).1
  have hlive : live h id := .inl ⟨_, _, _, e⟩
  have hc : Compat ι h ι (h.set id (.row g sz (cs.set off v))) := by
    refine ⟨by simp, fun j hj => live_set (.inl ⟨_, _, _, rfl⟩) hj, fun j hj g' sz' cs' ej => ?_, fun j hj es' ej => ?_⟩
    · by_cases hji : j = id
      · subst hji
        rw [List.getElem?_set_self hid] at ej
        injection ej with ej; injection ej with a b c
        subst a b
        exact ⟨g, sz, cs, e, Nat.le_refl _, fun _ => ⟨rfl, rfl⟩⟩
      · rw [List.getElem?_set_ne (fun e => hji e.symm)] at ej
        exact ⟨g', _, cs', ej, Nat.le_refl _, fun _ => ⟨rfl, rfl⟩⟩
    · by_cases hji : j = id
      · subst hji
        rw [List.getElem?_set_self hid] at ej
        injection ej with ej; cases ej
      · rw [List.getElem?_set_ne (fun e => hji e.symm)] at ej
        exact ⟨es', ej, rfl⟩
  have hsz : w.heap.size ≤ (w.setCell ⟨(ι id).b, (ι id).o + off, none⟩ v').heap.size := by simp [World.setCell]
  refine ⟨by rw [cell_of p1, q1]; simp, ?_, ?_, ?_⟩
  · simp only [World.frozen?, p1]
    have := p6 _ hin
    simp only [Bool.and_eq_false_iff, decide_eq_false_iff_not]
    omega
  · refine r.upd hid (by omega) (fun _ _ => rfl) (r.below.setCell p5 _) (fun j hj lj => ?_) hc (fun j hj lj => ?_) (fun g' sz' cs' e' => ?_) (fun es e' => by cases e')
    · exact Below.heap_setCell _ _ _ _ (fun x => r.inj id j (fun y => hj y.symm) hlive lj (by omega) x.symm)
    · exact fun x => r.inj id j (fun y => hj y.symm) hlive lj (by omega) x
    · injection e' with a b c
      subst a b c
      refine ⟨p5, _, t, fr, heap_setCell_same p1 _, by simpa using p2, fun i x ex => ?_, fun _ i hi => p6 i (by simpa using hi), fun hz => by simpa using p7 hz⟩
      by_cases hi : i = off
      · subst hi
        rw [List.getElem?_set_self ho] at ex
        injection ex with ex; subst ex
        exact ⟨v', by simp [hin], hv.mono hc, h1⟩
      · rw [List.getElem?_set_ne (fun e => hi e.symm)] at ex
        obtain ⟨x', a1, a2, a3⟩ := p3 i x ex
        exact ⟨x', by rw [Array.getElem?_setIfInBounds_ne (by omega)]; exact a1, a2.mono hc, a3⟩
  · exact Step.upd hid hl hlive (fun _ _ => rfl) hc hsz (.inl rfl) (fun b _ hb => Below.heap_setCell _ _ _ _ hb)

/-- a new row of cells -/
theorem Rel.alloc {w0 l0 lim ι h w} (r : Rel w0 l0 ι h w) {cs : List Value} {arr : Array Value} {t : TypeId} {fr : Nat × Nat} {sz : Nat}
    (hcs : ∀ (i : Nat) v, cs[i]? = some v → ∃ v', arr[i]? = some v' ∧ VR ι h v v' ∧ oneCell v = true) (hf : ∀ i, i < arr.size → ¬ (fr.1 ≤ i ∧ i < fr.2)) (hz : 4294967296 ≤ sz → sz / 4294967296 = t + 1 ∧ (wd sz = 0 → arr.size = cs.length)) {w' : World}
    (hw : w'.heap = w.heap.push (.cells arr t fr)) (ho : w'.os = w.os) (ht : w'.tape = w.tape) (hu : w'.output = w.output) :
    ∃ ι', ι' h.length = ⟨w.heap.size, 0, arr.size⟩ ∧ Rel w0 l0 ι' (h ++ [.row 0 sz cs]) w' ∧ Step lim ι h w ι' (h ++ [.row 0 sz cs]) w' := by
  let ι' : Iota := fun j => if j = h.length then ⟨w.heap.size, 0, arr.size⟩ else ι j
  have hι : ∀ j, j ≠ h.length → ι' j = ι j := fun j hj => by simp [ι', hj]
  have hn : ι' h.length = ⟨w.heap.size, 0, arr.size⟩ := by simp [ι']
  have hget : ∀ j, j < h.length → (h ++ [AObj.row 0 sz cs])[j]? = h[j]? := fun j hj => List.getElem?_append_left hj
  have hnew : (h ++ [AObj.row 0 sz cs])[h.length]? = some (.row 0 sz cs) := by simp
  have hc : Compat ι h ι' (h ++ [.row 0 sz cs]) := by
    refine ⟨by simp, fun j hj => by unfold live; rw [hget j (live_lt hj)]; exact hj, fun j hj g' sz' cs' ej => ?_, fun j hj es' ej => ?_⟩
    · have := live_lt hj
      rw [hget j this] at ej; exact ⟨g', _, cs', ej, Nat.le_refl _, fun _ => ⟨rfl, hι j (by omega)⟩⟩
    · have := live_lt hj
      rw [hget j this] at ej; exact ⟨es', ej, hι j (by omega)⟩
  have hblk : ∀ k, k < w.heap.size → w'.heap[k]? = w.heap[k]? := fun k hk => by rw [hw, Array.getElem?_push, if_neg (by omega)]
  have hlt : ∀ j, live h j → (ι j).b < w.heap.size := fun j l => by
    rcases l with ⟨g, s, c, e⟩ | ⟨es, e⟩
    · obtain ⟨a, t', f, q, _⟩ := r.row j g s c e; exact (Array.getElem?_eq_some_iff.1 q).1
    · obtain ⟨_, a, c, q, _⟩ := r.map j es e; exact (Array.getElem?_eq_some_iff.1 q).1
  have hlive : ∀ j, j ≠ h.length → live (h ++ [AObj.row 0 sz cs]) j → live h j := fun j hj l => by
    have hjl : j < h.length := by have := live_lt l; simp at this; omega
    unfold live at l
    rw [hget j hjl] at l
    exact l
  have hB : w0.heap.size ≤ w.heap.size := r.below.size
  refine ⟨ι', hn, ⟨?_, fun j g' sz' cs' ej => ?_, fun j es' ej => ?_, fun i j hij li lj hi => ?_, r.glob⟩, ?_⟩
  · exact ⟨ho.trans r.below.os, ht.trans r.below.tape, hu.trans r.below.output, by rw [hw]; simp; omega, fun k hk => (hblk k (by omega)).trans (r.below.block k hk)⟩
  · by_cases hj : j = h.length
    · subst hj
      rw [hnew] at ej
      injection ej with ej; injection ej with a b c
      subst a b c
      rw [hn]
      refine ⟨arr, t, fr, by rw [hw]; simp, rfl, fun i v ev => ?_, fun _ => ⟨hB, fun _ => hf, fun q => ⟨(hz q).1, rfl, (hz q).2⟩⟩⟩
      obtain ⟨v', q1, q2, q3⟩ := hcs i v ev
      exact ⟨v', by simpa using q1, q2.mono hc, q3⟩
    · have hjl : j < h.length := by have := (List.getElem?_eq_some_iff.1 ej).1; simp at this; omega
      rw [hget j hjl] at ej
      obtain ⟨a, t', f, q1, q2, q3, q4⟩ := r.row j g' sz' cs' ej
      rw [hι j hj]
      refine ⟨a, t', f, (hblk _ (hlt j (.inl ⟨_, _, _, ej⟩))).trans q1, q2, fun i v ev => ?_, q4⟩
      obtain ⟨v', z1, z2, z3⟩ := q3 i v ev
      exact ⟨v', z1, z2.mono hc, z3⟩
  · have hjl : j < h.length := by
      have h1 := (List.getElem?_eq_some_iff.1 ej).1
      simp at h1
      rcases Nat.lt_or_ge j h.length with h2 | h2
      · exact h2
      · have : j = h.length := by omega
        subst this
        rw [hnew] at ej; cases ej
    rw [hget j hjl] at ej
    obtain ⟨h0, en, cl, q1, q2, q3⟩ := r.map j es' ej
    rw [hι j (by omega)]
    refine ⟨h0, en, cl, (hblk _ (hlt j (.inr ⟨_, ej⟩))).trans q1, q2, fun i k v ev => ?_⟩
    obtain ⟨x, z1, z2, z3⟩ := q3 i k v ev
    exact ⟨x, z1, z2.mono hc, z3.mono hc⟩
  · by_cases h1 : i = h.length
    · subst h1
      have h2 : j ≠ h.length := fun e => hij e.symm
      rw [hn, hι j h2]
      have := hlt j (hlive j h2 lj)
      simp; omega
    · rw [hι i h1]
      by_cases h2 : j = h.length
      · subst h2
        rw [hn]
        have := hlt i (hlive i h1 li)
        simp; omega
      · rw [hι j h2]
        exact r.inj i j hij (hlive i h1 li) (hlive j h2 lj) hi
  · refine ⟨hc, fun j _ hj => ⟨hget j (live_lt hj), hι j (by have := live_lt hj; omega)⟩, by rw [hw]; simp, fun b hb _ => hblk b hb, fun j l => ?_⟩
    by_cases h1 : j = h.length
    · subst h1
      rw [hn]
      exact .inr (Nat.le_refl _)
    · exact .inl ⟨hlive j h1 l, by rw [hι j h1]⟩

end Go.Abs
namespace Go.Abs
open Go.RowKit
set_option linter.unusedSimpArgs false

theorem add_at (b o n : Nat) : (⟨b, o, none⟩ : Addr).add n = ⟨b, o + n, none⟩ := by unfold Addr.add; split <;> simp_all

theorem VR.one {ι h v v'} (r : VR ι h v v') (h1 : oneCell v = true) : v'.oneCell' = true := by
  cases r <;> first | rfl | (simp [oneCell] at h1)

theorem cut_some {cs : List Value} {off n : Nat} {l : List Value} (e : cut cs off n = some l) : off + n ≤ cs.length ∧ l = (cs.drop off).take n ∧ l.length = n := by
  unfold cut at e
  split at e
  · rename_i h; injection e with e; subst e; exact ⟨h, rfl, by simp; omega⟩
  · cases e

/-- what a row's cells are in memory -/
theorem Rel.cells {w0 l0 ι h w} (r : Rel w0 l0 ι h w) {id g sz : Nat} {cs : List Value} (e : h[id]? = some (.row g sz cs)) :
    ∃ cs', LR ι h cs cs' ∧ (∀ v ∈ cs, oneCell v = true) ∧ (∀ (i : Nat) v, cs'[i]? = some v → w.cell? ⟨(ι id).b, (ι id).o + i, none⟩ = some v) := by
  obtain ⟨arr, t, fr, p1, p2, p3, p4⟩ := r.row id g sz cs e
  refine ⟨(arr.toList.drop (ι id).o).take cs.length, ⟨?_, fun i v ev => ?_⟩, fun v hv => ?_, fun i v ev => ?_⟩
  · simp only [List.length_take, List.length_drop, Array.length_toList]
    by_cases h0 : cs.length = 0
    · omega
    · obtain ⟨v', q, _⟩ := p3 (cs.length - 1) _ (List.getElem?_eq_getElem (by omega))
      have := (Array.getElem?_eq_some_iff.1 q).1
      omega
  · obtain ⟨v', q1, q2, _⟩ := p3 i v ev
    have hi := (List.getElem?_eq_some_iff.1 ev).1
    exact ⟨v', by rw [List.getElem?_take_of_lt hi, List.getElem?_drop]; simpa using q1, q2⟩
  · obtain ⟨i, hi, rfl⟩ := List.mem_iff_getElem.1 hv
    obtain ⟨_, _, _, q⟩ := p3 i _ (List.getElem?_eq_getElem hi)
    exact q
  · have hi : i < cs.length := by
      have := (List.getElem?_eq_some_iff.1 ev).1
      simp at this
      omega
    rw [List.getElem?_take_of_lt hi, List.getElem?_drop] at ev
    rw [cell_of p1]
    simpa using ev

theorem LR.drop {ι h xs ys} (r : LR ι h xs ys) (n : Nat) : LR ι h (xs.drop n) (ys.drop n) :=
  ⟨by simp [r.1], fun i v e => by rw [List.getElem?_drop] at e ⊢; exact r.2 _ v e⟩
theorem LR.take {ι h xs ys} (r : LR ι h xs ys) (n : Nat) : LR ι h (xs.take n) (ys.take n) := by
  refine ⟨by simp [r.1], fun i v e => ?_⟩
  have hi : i < n := by have := (List.getElem?_eq_some_iff.1 e).1; simp at this; omega
  rw [List.getElem?_take_of_lt hi] at e ⊢
  exact r.2 _ v e
theorem LR.append {ι h xs ys xs' ys'} (r : LR ι h xs ys) (r' : LR ι h xs' ys') : LR ι h (xs ++ xs') (ys ++ ys') := by
  refine ⟨by simp [r.1, r'.1], fun i v e => ?_⟩
  by_cases hi : i < xs.length
  · rw [List.getElem?_append_left hi] at e
    rw [List.getElem?_append_left (by rw [← r.1]; exact hi)]
    exact r.2 i v e
  · rw [List.getElem?_append_right (by omega)] at e
    rw [List.getElem?_append_right (by rw [← r.1]; omega), ← r.1]
    exact r'.2 _ v e
theorem LR.nil {ι h} : LR ι h [] [] := ⟨rfl, fun i v e => by simp at e⟩
theorem LR.one {ι h v v'} (r : VR ι h v v') : LR ι h [v] [v'] := ⟨rfl, fun i x e => by
  cases i with
  | zero => simp at e; subst e; exact ⟨v', by simp, r⟩
  | succ i => simp at e⟩
theorem LR.of_agg {ι h} {x x' : Array Value} (hs : x.size = x'.size) (hv : ∀ i (a : i < x.size) (b : i < x'.size), VR ι h x[i] x'[i]) : LR ι h x.toList x'.toList := by
  refine ⟨by simpa using hs, fun i v e => ?_⟩
  have hi : i < x.size := by simpa using (List.getElem?_eq_some_iff.1 e).1
  have hi' : i < x'.size := by omega
  refine ⟨x'[i], by simp [hi'], ?_⟩
  have := hv i hi hi'
  rw [Array.getElem?_toList, Array.getElem?_eq_getElem hi] at e
  injection e with e
  rw [← e]; exact this
theorem LR.to_agg {ι h} {xs ys : List Value} (r : LR ι h xs ys) : xs.toArray.size = ys.toArray.size ∧ ∀ i (a : i < xs.toArray.size) (b : i < ys.toArray.size), VR ι h xs.toArray[i] ys.toArray[i] := by
  refine ⟨by simpa using r.1, fun i a b => ?_⟩
  simp at a b
  obtain ⟨v', e, q⟩ := r.2 i _ (List.getElem?_eq_getElem a)
  rw [List.getElem?_eq_getElem b] at e
  injection e with e
  simpa [e] using q

/-- a stretch of a row, loaded -/
theorem Rel.load {w0 l0 ι h w} (r : Rel w0 l0 ι h w) {P : Program} {id g sz off n : Nat} {cs l : List Value} (e : h[id]? = some (.row g sz cs)) (hc : cut cs off n = some l) :
    ∃ l', LR ι h l l' ∧ (∀ v ∈ l, oneCell v = true) ∧ (loadCells ⟨(ι id).b, (ι id).o + off, none⟩ n).run P w = .ok l'.toArray w := by
  obtain ⟨h1, h2, h3⟩ := cut_some hc
  obtain ⟨cs', q1, q2, q3⟩ := r.cells e
  refine ⟨(cs'.drop off).take n, ?_, fun v hv => ?_, ?_⟩
  · rw [h2]; exact (q1.drop off).take n
  · rw [h2] at hv; exact q2 v (List.mem_of_mem_drop (List.mem_of_mem_take hv))
  · have hlen : ((cs'.drop off).take n).length = n := by simp; have := q1.1; omega
    have := run_loadCells_list (P := P) w ⟨(ι id).b, (ι id).o + off, none⟩ ((cs'.drop off).take n) (fun j v hj => ?_)
    · rw [hlen] at this; exact this
    · have hj' : j < n := by have := (List.getElem?_eq_some_iff.1 hj).1; simp at this; omega
      rw [List.getElem?_take_of_lt hj', List.getElem?_drop] at hj
      rw [add_at, Nat.add_assoc]
      exact q3 _ v hj

theorem setMany_nil (cs : List Value) (off : Nat) : setMany cs off [] = cs := rfl
theorem setMany_length (cs : List Value) (off : Nat) (vs : List Value) : (setMany cs off vs).length = cs.length := by
  induction vs generalizing cs off with
  | nil => rfl
  | cons v vs ih => simp [setMany, ih]

/-- cells stored into a row of the call's own -/
theorem Rel.setMany {w0 l0 lim ι} (hl0 : l0 ≤ lim) (P : Program) : ∀ (vs vs' : List Value) {h : AH} {w : World} (_ : Rel w0 l0 ι h w) {id g sz off : Nat} {cs : List Value}
    (_ : h[id]? = some (.row g sz cs)) (_ : lim ≤ id) (_ : off + vs.length ≤ cs.length) (_ : LR ι h vs vs') (_ : ∀ v ∈ vs, oneCell v = true),
    ∃ w', (storeCells ⟨(ι id).b, (ι id).o + off, none⟩ vs').run P w = .ok () w' ∧ Rel w0 l0 ι (h.set id (.row g sz (setMany cs off vs))) w' ∧ Step lim ι h w ι (h.set id (.row g sz (Abs.setMany cs off vs))) w' ∧ w'.tape = w.tape := by
  have key : ∀ (vs vs' : List Value) {h : AH} {w : World} (_ : Rel w0 l0 ι h w) {id g sz off : Nat} (i : Nat) {cs : List Value}
    (_ : h[id]? = some (.row g sz cs)) (_ : lim ≤ id) (_ : off + i + vs.length ≤ cs.length) (_ : LR ι h vs vs') (_ : ∀ v ∈ vs, oneCell v = true),
    ∃ w', (storeCells ⟨(ι id).b, (ι id).o + off, none⟩ vs' i).run P w = .ok () w' ∧ Rel w0 l0 ι (h.set id (.row g sz (Abs.setMany cs (off + i) vs))) w' ∧ Step lim ι h w ι (h.set id (.row g sz (Abs.setMany cs (off + i) vs))) w' ∧ w'.tape = w.tape := by
    intro vs
    induction vs with
    | nil =>
      intro vs' h w r id g sz off i cs e hl hlen hL ho
      have : vs' = [] := by cases vs' with | nil => rfl | cons _ _ => have := hL.1; simp at this
      subst this
      have hid : id < h.length := (List.getElem?_eq_some_iff.1 e).1
      have hs : h.set id (.row g sz cs) = h := by
        apply List.ext_getElem?; intro j
        by_cases hj : j = id
        · subst hj; rw [List.getElem?_set_self hid, e]
        · rw [List.getElem?_set_ne (fun x => hj x.symm)]
      simp only [setMany_nil, hs]
      exact ⟨w, rfl, r, Step.refl _ _ _ _, rfl⟩
    | cons v vs ih =>
      intro vs' h w r id g sz off i cs e hl hlen hL ho
      cases vs' with
      | nil => have := hL.1; simp at this
      | cons v' vs' =>
        have hid : id < h.length := (List.getElem?_eq_some_iff.1 e).1
        have hv : VR ι h v v' := by obtain ⟨u, q1, q2⟩ := hL.2 0 v rfl; simp at q1; subst q1; exact q2
        have hL' : LR ι h vs vs' := ⟨by have := hL.1; simpa using this, fun j x ex => by have := hL.2 (j + 1) x (by simpa using ex); simpa using this⟩
        have h1 : oneCell v = true := ho v (by simp)
        simp at hlen
        obtain ⟨z1, z2, z3, z4⟩ := r.set1 hl0 e hl (off := off + i) (by omega) hv h1
        have e' : (h.set id (.row g sz (cs.set (off + i) v)))[id]? = some (.row g sz (cs.set (off + i) v)) := List.getElem?_set_self hid
        obtain ⟨w', a1, a2, a3, a4⟩ := ih vs' z3 (off := off) (i + 1) e' hl (by simp; omega) (hL'.mono z4.compat) (fun x hx => ho x (by simp [hx]))
        refine ⟨w', ?_, ?_, ?_, ?_⟩
        · have hst : (store ((⟨(ι id).b, (ι id).o + off, none⟩ : Addr).add i) v').run P w = .ok () (w.setCell ⟨(ι id).b, (ι id).o + (off + i), none⟩ v') := by
            rw [add_at, run_store P w _ v' _ (hv.one h1), Nat.add_assoc]
            cases hq : w.cell? ⟨(ι id).b, (ι id).o + (off + i), none⟩ with
            | none => exact absurd hq z1
            | some u => simp [z2]
          simp only [storeCells, Sem.run_bind, hst, Result.andThen_ok]
          exact a1
        · rw [List.set_set] at a2
          simpa [Abs.setMany, Nat.add_assoc] using a2
        · have := z4.trans a3
          rw [List.set_set] at this
          simpa [Abs.setMany, Nat.add_assoc] using this
        · exact a4.trans rfl
  intro vs vs' h w r id g sz off cs e hl hlen hL ho
  simpa using key vs vs' r (off := off) 0 e hl (by omega) hL ho

end Go.Abs
namespace Go.Abs
open Go.RowKit
set_option linter.unusedSimpArgs false

theorem growBy_le (n : Nat) : ∀ (k c : Nat), 256 ≤ c → c ≤ 2 * n → Builtin.growBy n k c ≤ 2 * n ∨ Builtin.growBy n k c ≤ 2 * n
  | 0, c, _, h => by simp [Builtin.growBy]; omega
  | k + 1, c, h1, h2 => by
    simp only [Builtin.growBy]
    split
    · exact .inl h2
    · exact growBy_le n k _ (by omega) (by omega)

theorem nextslicecap_le (n c : Nat) (h : c < n) : Builtin.nextslicecap n c ≤ 2 * n := by
  unfold Builtin.nextslicecap
  split
  · omega
  · split
    · omega
    · exact (growBy_le n 4 c (by omega) (by omega)).elim id id

theorem bytesList (s : ByteArray) (n : Nat) : (((s.extract 0 n).data.map fun b => (Value.int .u8 b.toNat)).toList) = (s.data.toList.take n).map fun b => Value.int .u8 b.toNat := by
  rw [Array.toList_map]
  congr 1
  rw [ByteArray.data_extract]
  simp [Array.toList_extract]

/-- the cells of what is appended or copied -/
theorem srcCells_sound {w0 l0 ι h w} (r : Rel w0 l0 ι h w) {P : Program} {x x' : Value} {n size : Nat} {cs : List Value} (e : srcCells h x n size = some cs) (hx : VR ι h x x') {m : Nat} (hm : lenOf x = some m) (hnm : n ≤ m) :
    ∃ cs', LR ι h cs cs' ∧ (∀ v ∈ cs, oneCell v = true) ∧ (Builtin.firstCells size n x').run P w = .ok cs'.toArray w := by
  unfold srcCells at e
  cases hx with
  | snil =>
    simp only at e
    split at e
    · injection e with e; subst e
      exact ⟨[], LR.nil, by simp, by simp [Builtin.firstCells]⟩
    · cases e
  | @slice id off g m2 c c' a hid hn hc hr =>
    simp [lenOf] at hm
    subst hm
    simp only [Option.bind_eq_some_iff] at e
    obtain ⟨r0, e1, e2⟩ := e
    have hh := rowAt_some e1
    obtain ⟨l', q1, q2, q3⟩ := r.load (P := P) hh e2
    obtain ⟨_, hq⟩ := hr _ _ _ hh
    obtain ⟨ha, hb⟩ := hq rfl
    refine ⟨l', q1, q2, ?_⟩
    simp only [Builtin.firstCells]
    by_cases hz : c' = 0
    · have : n * size = 0 ∨ a = ⟨(ι id).b, (ι id).o + off, none⟩ := by
        have : n = 0 := by omega
        exact .inl (by simp [this])
      rcases this with h0 | h0
      · rw [h0] at q3 ⊢
        simpa [loadCells, loadCellsFrom] using q3
      · rw [h0]; exact q3
    · rcases ha with h0 | h0
      · exact absurd h0 hz
      · rw [h0]; exact q3
  | str s =>
    simp only at e
    split at e
    case isFalse => cases e
    injection e with e
    subst e
    refine ⟨(s.data.toList.take n).map fun b => .int .u8 b.toNat, ⟨rfl, fun i v ev => ⟨v, ev, ?_⟩⟩, fun v hv => ?_, ?_⟩
    · rw [List.getElem?_map] at ev
      cases hq : (s.data.toList.take n)[i]? with
      | none => simp [hq] at ev
      | some b => simp [hq] at ev; subst ev; exact .int _ _
    · obtain ⟨b, _, rfl⟩ := List.mem_map.1 hv; rfl
    · simp only [Builtin.firstCells, Sem.run_pure]
      congr 1
      apply Array.ext'
      rw [bytesList]
  | _ => simp at e

end Go.Abs
namespace Go.Abs
open Go.RowKit
set_option linter.unusedSimpArgs false

def notInt (d : TypeDesc) : Prop := ∀ k, d ≠ .int k

theorem run_append_room {P : Program} {w : World} {sT xT ty e : TypeId} {i : TypeInfo} {d : TypeDesc} {base : Option Addr} {sLen sCap n : Nat} {x' : Value} {new : Array Value} {w' : World}
    (hs : P.underlying sT = some (.slice e)) (hi : P.info? e = some i) (hx : P.underlying xT = some d) (hd : notInt d)
    (hn : (Builtin.lenOf x').run P w = .ok n w) (hf : (Builtin.firstCells i.size n x').run P w = .ok new w) (hc : sLen + n ≤ sCap)
    (hst : ∀ a, base = some a → (storeCells (a.add (sLen * i.size)) new.toList).run P w = .ok () w') (hb : base = none → w' = w) :
    (Builtin.append_ #[sT, xT] ty #[.slice base sLen sCap, x']).run P w = .ok (.slice base (sLen + n) sCap) w' := by
  have hz : (do pure ((← underlying xT) matches .int _) : Sem Bool).run P w = .ok false w := by
    simp only [Sem.run_bind, run_underlying hx, Result.andThen_ok, Sem.run_pure]
    cases d <;> first | rfl | exact absurd rfl (hd _)
  simp only [Builtin.append_]
  cases base with
  | none =>
    have := hb rfl
    subst this
    simp [run_underlying hs, run_underlying hx, sizeOf, typeInfo, hi, hn, hf, hc]
    cases d <;> first | (simp [hn, hf, hc]; done) | exact absurd rfl (hd _)
  | some a =>
    have h2 := hst a rfl
    simp [run_underlying hs, run_underlying hx, sizeOf, typeInfo, hi, hn, hf, hc]
    cases d <;> first | (simp [hn, hf, hc, h2]; done) | exact absurd rfl (hd _)

theorem run_append_grow {P : Program} {w : World} {sT xT ty e : TypeId} {i : TypeInfo} {z : Value} {d : TypeDesc} {base : Option Addr} {sLen sCap n : Nat} {x' : Value} {old new : Array Value}
    (hs : P.underlying sT = some (.slice e)) (hi : P.info? e = some i) (hz : i.zero = some z) (hx : P.underlying xT = some d) (hd : notInt d)
    (hn : (Builtin.lenOf x').run P w = .ok n w) (hc : ¬ sLen + n ≤ sCap) (hb : (sLen + n) * i.bytes ≤ 2 ^ 47) (hpos : 0 < i.bytes)
    (ho : (Builtin.firstCells i.size sLen (.slice base sLen sCap)).run P w.drew = .ok old w.drew)
    (hf : (Builtin.firstCells i.size n x').run P w.drew = .ok new w.drew) :
    ∃ (cap : Nat) (rest : Array Value), sLen + n ≤ cap ∧ rest = Builtin.zeroCells z.cells (cap - (sLen + n)) ∧
      (Builtin.append_ #[sT, xT] ty #[.slice base sLen sCap, x']).run P w = .ok (.slice (some ⟨w.heap.size, 0, none⟩) (sLen + n) cap) { w with drawn := w.drawn + 1, heap := w.heap.push (.cells (old ++ new ++ rest) e) } := by
  have h47 : sLen + n ≤ 2 ^ 47 := Nat.le_trans (Nat.le_mul_of_pos_right _ hpos) hb
  have hcap : Builtin.nextslicecap (sLen + n) sCap * i.bytes ≤ 2 ^ 48 := by
    have h1 := nextslicecap_le (sLen + n) sCap (by omega)
    calc Builtin.nextslicecap (sLen + n) sCap * i.bytes ≤ (2 * (sLen + n)) * i.bytes := Nat.mul_le_mul_right _ h1
      _ = 2 * ((sLen + n) * i.bytes) := Nat.mul_assoc _ _ _
      _ ≤ 2 ^ 48 := by omega
  let cap := (Question.appendCap (sLen + n) sCap e).cut (w.tape w.drawn (Question.appendCap (sLen + n) sCap e))
  refine ⟨cap, _, by simp only [cap, Question.cut]; omega, rfl, ?_⟩
  have hforced : (Question.appendCap (sLen + n) sCap e).forced = false := rfl
  have hmax : ¬ ((sLen + n : Nat) : Int) > 9223372036854775807 := by omega
  have hcap' : ¬ (Builtin.nextslicecap (sLen + n) sCap * i.bytes > 2 ^ 48) := by omega
  simp only [Builtin.append_]
  simp [run_underlying hs, run_underlying hx, sizeOf, typeInfo, hi, hn, hc]
  cases d <;> first | exact absurd rfl (hd _) | skip
  all_goals
    simp [hn, hc]
    rw [if_neg (by omega), if_neg (by omega)]
    simp [hforced, zeroValue, typeInfo, hi, hz]
    rw [ho]
    simp only [Result.andThen_ok]
    rw [hf]
    simp [newRow, cap]
    first | rfl | (constructor <;> rfl) | done

end Go.Abs
namespace Go.Abs
open Go.RowKit
set_option linter.unusedSimpArgs false

theorem Rel.blt {w0 l0 ι h w} (r : Rel w0 l0 ι h w) {j : Nat} (l : live h j) : (ι j).b < w.heap.size := by
  rcases l with ⟨g, s, c, e⟩ | ⟨es, e⟩
  · obtain ⟨a, t', f, q, _⟩ := r.row j g s c e; exact (Array.getElem?_eq_some_iff.1 q).1
  · obtain ⟨_, a, c, q, _⟩ := r.map j es e; exact (Array.getElem?_eq_some_iff.1 q).1

theorem setCells_heap {b : Nat} : ∀ (vs : List Value) (k : Nat) (w : World) (arr : Array Value) (t : TypeId) (fr : Nat × Nat), w.heap[b]? = some (.cells arr t fr) →
    ∃ arr', (w.setCells b k vs).heap[b]? = some (.cells arr' t fr) ∧ arr'.size = arr.size ∧ (∀ j, j < k ∨ k + vs.length ≤ j → arr'[j]? = arr[j]?) ∧ (∀ j, j < vs.length → k + j < arr.size → arr'[k + j]? = vs[j]?)
  | [], k, w, arr, t, fr, e => ⟨arr, e, rfl, fun _ _ => rfl, fun j hj => by simp at hj⟩
  | v :: vs, k, w, arr, t, fr, e => by
    obtain ⟨arr', h1, h2, h3, h4⟩ := setCells_heap vs (k + 1) (w.setCell ⟨b, k, none⟩ v) (arr.setIfInBounds k v) t fr (heap_setCell_same e v)
    refine ⟨arr', h1, by simpa using h2, fun j hj => ?_, fun j hj hlt => ?_⟩
    · rw [h3 j (by simp at hj; omega), Array.getElem?_setIfInBounds_ne (by simp at hj; omega)]
    · cases j with
      | zero =>
        rw [Nat.add_zero, h3 k (by omega)]
        simp at hlt
        simp [hlt]
      | succ j =>
        have := h4 j (by simpa using hj) (by simp; omega)
        rw [show k + (j + 1) = k + 1 + j by omega, this]
        simp
theorem setCells_other {b : Nat} : ∀ (vs : List Value) (k : Nat) (w : World) (c : Nat), c ≠ b → (w.setCells b k vs).heap[c]? = w.heap[c]?
  | [], _, _, _, _ => rfl
  | v :: vs, k, w, c, hc => by rw [World.setCells, setCells_other vs (k + 1) _ c hc, Below.heap_setCell _ _ _ _ hc]
theorem setCells_below {B b : Nat} : ∀ (vs : List Value) (k : Nat) {a w : World}, Below B a w → B ≤ b → Below B a (w.setCells b k vs)
  | [], _, _, _, h, _ => h
  | v :: vs, k, _, _, h, hb => setCells_below vs (k + 1) (h.setCell (p := ⟨b, k, none⟩) hb v) hb
theorem setCells_size {b : Nat} : ∀ (vs : List Value) (k : Nat) (w : World), (w.setCells b k vs).heap.size = w.heap.size
  | [], _, _ => rfl
  | v :: vs, k, w => by rw [World.setCells, setCells_size vs (k + 1)]; simp [World.setCell]

theorem lenOf_sound {ι h x x'} (hx : VR ι h x x') {n : Nat} (e : lenOf x = some n) {P : Program} {w : World} : (Builtin.lenOf x').run P w = .ok n w := by
  cases hx <;> simp [lenOf] at e <;> subst e <;> simp [Builtin.lenOf]

theorem first0 {ι h x x'} (hx : VR ι h x x') {n : Nat} (e : lenOf x = some n) (size : Nat) {P : Program} {w : World} : (Builtin.firstCells size 0 x').run P w = .ok #[] w := by
  cases hx <;> simp [lenOf] at e <;> subst e <;> simp [Builtin.firstCells, loadCells, loadCellsFrom]

theorem srcCells_len {h x n size cs} (e : srcCells h x n size = some cs) {m : Nat} (hm : lenOf x = some m) (hnm : n ≤ m) : cs.length = n * size := by
  unfold srcCells at e
  split at e
  · split at e
    · rename_i h0; injection e with e; subst e h0; simp
    · cases e
  · simp only [Option.bind_eq_some_iff] at e
    obtain ⟨r0, _, e2⟩ := e
    exact (cut_some e2).2.2
  · rename_i s
    split at e
    · rename_i h1
      injection e with e
      subst e h1
      simp [lenOf] at hm
      subst hm
      simp only [List.length_map, List.length_take, Array.length_toList, Nat.mul_one]
      exact Nat.min_eq_left hnm
    · cases e
  · cases e

theorem storeCells_shift (P : Program) (b o k : Nat) : ∀ (vs : List Value) (i : Nat) (w : World), (storeCells (⟨b, o + k, none⟩ : Addr) vs i).run P w = (storeCells (⟨b, o, none⟩ : Addr) vs (k + i)).run P w
  | [], _, _ => rfl
  | v :: vs, i, w => by
    simp only [storeCells, Sem.run_bind, add_at, Nat.add_assoc]
    congr 1
    funext _ w'
    exact storeCells_shift P b o k vs (i + 1) w'

theorem zeroCells_size (z : Array Value) (n : Nat) : (Builtin.zeroCells z n).size = n * z.size := by simp [Builtin.zeroCells]

theorem compat_bump {ι h ι' id g g' sz szn cs cs'} (e : h[id]? = some (.row g sz cs)) (hg : g < g') (hι : ∀ j, j ≠ id → ι' j = ι j) : Compat ι h ι' (h.set id (.row g' szn cs')) := by
  have hid : id < h.length := (List.getElem?_eq_some_iff.1 e).1
  refine ⟨by simp, fun j hj => live_set (.inl ⟨_, _, _, rfl⟩) hj, fun j hj g'' sz' cs'' ej => ?_, fun j hj es' ej => ?_⟩
  · by_cases hji : j = id
    · subst hji
      rw [List.getElem?_set_self hid] at ej
      injection ej with ej; injection ej with a b c
      subst a b
      exact ⟨g, sz, cs, e, by omega, fun x => by omega⟩
    · rw [List.getElem?_set_ne (fun e => hji e.symm)] at ej
      exact ⟨g'', _, cs'', ej, Nat.le_refl _, fun _ => ⟨rfl, hι j hji⟩⟩
  · by_cases hji : j = id
    · subst hji
      rw [List.getElem?_set_self hid] at ej
      injection ej with ej; cases ej
    · rw [List.getElem?_set_ne (fun e => hji e.symm)] at ej
      exact ⟨es', ej, hι j hji⟩

theorem app_sound {w0 l0 lim ι h w} (r : Rel w0 l0 ι h w) (hl0 : l0 ≤ lim) {P : Program} {s s' x x' v : Value} {h' : AH} {sT xT ty e : TypeId} {i : TypeInfo} {z : Value} {d : TypeDesc} {tg : Nat}
    (hs : VR ι h s s') (hx : VR ι h x x') (he : app lim h s x i.size tg i.bytes = some (v, h')) (hsT : P.underlying sT = some (.slice e)) (hi : P.info? e = some i) (hz : i.zero = some z)
    (hzs : z.cells.size = i.size) (hb : 0 < i.bytes) (hpos : 0 < i.size) (hw : wd tg = i.size) (htg : 4294967296 ≤ tg → tg / 4294967296 = e + 1) (hxT : P.underlying xT = some d) (hd : notInt d) :
    ∃ v' w' ι', (Builtin.append_ #[sT, xT] ty #[s', x']).run P w = .ok v' w' ∧ VR ι' h' v v' ∧ Rel w0 l0 ι' h' w' ∧ Step lim ι h w ι' h' w' := by
  unfold app at he
  simp only [Option.bind_eq_some_iff] at he
  obtain ⟨n, hn, he⟩ := he
  have hlen := fun w1 => lenOf_sound hx hn (P := P) (w := w1)
  cases hs with
  | snil =>
    simp only at he
    split at he
    · rename_i h0
      subst h0
      injection he with he; injection he with e1 e2; subst e1 e2
      refine ⟨_, w, ι, run_append_room hsT hi hxT hd (hlen w) (first0 hx hn _) (by omega) (fun a ha => by cases ha) (fun _ => rfl), .snil, r, Step.refl _ _ _ _⟩
    · rename_i h0
      simp only [Option.bind_eq_some_iff] at he
      obtain ⟨cs, hcs, he⟩ := he
      split at he
      · rename_i hb47
        injection he with he; injection he with e1 e2; subst e1 e2
        have r1 : Rel w0 l0 ι h w.drew := r.world rfl rfl rfl rfl
        obtain ⟨cs', q1, q2, q3⟩ := srcCells_sound r1 (P := P) hcs hx hn (Nat.le_refl _)
        obtain ⟨cap, rest, c1, c2, c3⟩ := run_append_grow (ty := ty) (base := none) (sLen := 0) (sCap := 0) (old := #[]) (new := cs'.toArray) hsT hi hz hxT hd (hlen w) (by omega) (by simpa using hb47) hb
          (by simp [Builtin.firstCells]) q3
        have hcl := (srcCells_len hcs hn (Nat.le_refl _)).symm
        have hrs : rest.size = (cap - n) * i.size := by rw [c2, zeroCells_size, hzs]; simp
        obtain ⟨ι', a1, a2, a3⟩ := r.alloc (lim := lim) (cs := cs) (arr := #[] ++ cs'.toArray ++ rest) (t := e) (fr := (0, 0)) (sz := tg) (fun j v ev => by
          obtain ⟨v', z1, z2⟩ := q1.2 j v ev
          refine ⟨v', ?_, z2, q2 v (List.mem_of_getElem? ev)⟩
          have hj := (List.getElem?_eq_some_iff.1 z1).1
          rw [Array.getElem?_append_left (by simpa using hj)]
          simpa using z1) (fun j _ hj => by simp at hj) (fun q => ⟨htg q, fun q0 => by omega⟩) (w' := { w with drawn := w.drawn + 1, heap := w.heap.push (.cells (#[] ++ cs'.toArray ++ rest) e) }) rfl rfl rfl rfl
        refine ⟨_, _, ι', c3, ?_, a2, a3⟩
        rw [Nat.zero_add]
        refine .slice (.inl ⟨0, tg, cs, by simp⟩) (by simpa using c1) (by simpa using c1) fun g' sz cs2 ex => ?_
        simp at ex
        obtain ⟨e1, e2, e3⟩ := ex
        subst e1 e2
        refine ⟨Nat.le_refl _, fun _ => ?_⟩
        rw [a1]
        refine ⟨.inr rfl, ?_⟩
        rw [hw]
        have := q1.1
        simp only [Array.size_append, List.size_toArray, hrs, Array.size_empty]
        simp at c1
        rw [← this, ← hcl]
        have : n * i.size + (cap - n) * i.size = cap * i.size := by rw [← Nat.add_mul]; congr 1; omega
        omega
      · cases he
  | @slice id off g len cap c' a hid hln hlc hr =>
    simp only at he
    split at he
    · rename_i h0
      subst h0
      injection he with he; injection he with e1 e2; subst e1 e2
      exact ⟨_, w, ι, run_append_room hsT hi hxT hd (hlen w) (first0 hx hn _) (by omega) (fun a ha => by simp [storeCells]) (fun h => by cases h), .slice hid hln hlc hr, r, Step.refl _ _ _ _⟩
    · rename_i h0
      simp only [Option.bind_eq_some_iff] at he
      obtain ⟨cs, hcs, rr, hrr, he⟩ := he
      obtain ⟨sz, rc⟩ := rr
      have hrow := rowAt_some hrr
      simp only at hrow he
      obtain ⟨_, hr2⟩ := hr _ _ _ hrow
      obtain ⟨ha, htop⟩ := hr2 rfl
      have hcl := srcCells_len hcs hn (Nat.le_refl _)
      split at he
      · rename_i hin
        split at he
        · rename_i hcond
          obtain ⟨k1, k2, k3⟩ := hcond
          injection he with he; injection he with e1 e2; subst e1 e2
          subst k2
          rw [hw] at htop
          obtain ⟨cs', q1, q2, q3⟩ := srcCells_sound r (P := P) hcs hx hn (Nat.le_refl _)
          have ha' : a = ⟨(ι id).b, (ι id).o + off, none⟩ := ha.resolve_left (by omega)
          obtain ⟨w', m1, m2, m3, _⟩ := Rel.setMany hl0 P cs cs' r (off := off + len * i.size) hrow k1 (by rw [hcl]; rw [Nat.add_mul] at k3; omega) q1 q2
          refine ⟨_, w', ι, run_append_room hsT hi hxT hd (hlen w) q3 (by omega) (fun a2 ha2 => ?_) (fun h => by cases h), ?_, m2, m3⟩
          · injection ha2 with ha2
            subst ha2 ha'
            rw [add_at]
            simpa [Nat.add_assoc] using m1
          · have hv := VR.mono m3.compat (.slice hid hln hlc hr : VR ι h (.slice (some ⟨id, off, some g⟩) len cap) (.slice (some a) len c'))
            cases hv with
            | slice _ _ _ hr3 => exact .slice (live_set (.inl ⟨_, _, _, rfl⟩) hid) (by omega) hlc hr3
        · cases he
      · rename_i hout
        split at he
        · rename_i hcond
          obtain ⟨k1, k2, k3, k4, k5⟩ := hcond
          injection he with he; injection he with e1 e2; subst e1 e2
          subst k2 k3
          rw [hw] at htop
          have hlive : live h id := .inl ⟨_, _, _, hrow⟩
          obtain ⟨arr, t, fr, p1, p2, p3, p4⟩ := r.row id g _ rc hrow
          obtain ⟨p5, p60, p7⟩ := p4 (by omega)
          have p6 := p60 (.inl (by have : wd sz ≤ sz := Nat.mod_le _ _; omega))
          have hrcL : rc.length ≤ arr.size - (ι id).o ∨ rc.length = 0 := by
            by_cases hz0 : rc.length = 0
            · exact .inr hz0
            · obtain ⟨v', q, _⟩ := p3 (rc.length - 1) _ (List.getElem?_eq_getElem (by omega))
              have := (Array.getElem?_eq_some_iff.1 q).1
              omega
          by_cases hroom : len + n ≤ c'
          · -- there is room
            have ha' : a = ⟨(ι id).b, (ι id).o + 0, none⟩ := ha.resolve_left (by omega)
            obtain ⟨cs', q1, q2, q3⟩ := srcCells_sound r (P := P) hcs hx hn (Nat.le_refl _)
            have hmul : (len + n) * i.size ≤ c' * i.size := Nat.mul_le_mul_right _ hroom
            have hlenc : cs'.length = n * i.size := by rw [← q1.1, hcl]
            have hfit : (ι id).o + len * i.size + cs'.length ≤ arr.size := by rw [hlenc]; rw [Nat.add_mul] at hmul; omega
            obtain ⟨arr', s1, s2, s3, s4⟩ := setCells_heap cs' ((ι id).o + len * i.size) w arr t fr p1
            have hc : Compat ι h ι (h.set id (.row (g + 1) sz (rc ++ cs))) := compat_bump hrow (by omega) (fun _ _ => rfl)
            have hst : (storeCells (⟨(ι id).b, (ι id).o, none⟩ : Addr) cs' (len * i.size)).run P w = .ok () (w.setCells (ι id).b ((ι id).o + len * i.size) cs') := by
              refine run_storeCells_cells (ι id).b (ι id).o cs' (len * i.size) w (fun j hj => ?_) (fun j hj => ?_) (fun y hy => ?_)
              · rw [cell_of p1]; simp; omega
              · simp only [World.frozen?, p1]
                have := p6 ((ι id).o + len * i.size + j) (by omega)
                simp only [Bool.and_eq_false_iff, decide_eq_false_iff_not]
                omega
              · obtain ⟨j, hj, rfl⟩ := List.mem_iff_getElem.1 hy
                have hj' : j < cs.length := by rw [q1.1]; exact hj
                obtain ⟨y', y1, y2⟩ := q1.2 j _ (List.getElem?_eq_getElem hj')
                rw [List.getElem?_eq_getElem hj] at y1
                injection y1 with y1
                rw [y1]
                exact y2.one (q2 _ (List.getElem_mem _))
            refine ⟨_, w.setCells (ι id).b ((ι id).o + len * i.size) cs', ι, run_append_room hsT hi hxT hd (hlen w) q3 hroom (fun a2 ha2 => ?_) (fun h => by cases h), ?_, ?_, ?_⟩
            · injection ha2 with ha2
              subst ha2 ha'
              rw [add_at, storeCells_shift]
              simpa using hst
            · refine .slice (live_set (.inl ⟨_, _, _, rfl⟩) hid) hroom hroom fun g' sz2 cs2 ex => ?_
              rw [List.getElem?_set_self (live_lt hid)] at ex
              injection ex with ex; injection ex with x1 x2 x3
              subst x1 x2
              exact ⟨Nat.le_refl _, fun _ => ⟨.inr ha', by rw [hw]; exact htop⟩⟩
            · refine r.upd (live_lt hid) (by omega) (fun _ _ => rfl) (setCells_below _ _ r.below p5) (fun j hj lj => setCells_other _ _ _ _ (fun y => r.inj id j (fun q => hj q.symm) hlive lj (by omega) y.symm)) hc
                (fun j hj lj y => r.inj id j (fun q => hj q.symm) hlive lj (by omega) y) (fun g2 sz2 cs2 e2 => ?_) (fun es e2 => by cases e2)
              injection e2 with x1 x2 x3
              subst x1 x2 x3
              refine ⟨p5, arr', t, fr, s1, by rw [s2, p2], fun j v ev => ?_, fun _ j hj => p6 j (by omega), fun q => ⟨(p7 q).1, (p7 q).2.1, fun q0 => by omega⟩⟩
              by_cases hj : j < rc.length
              · rw [List.getElem?_append_left hj] at ev
                obtain ⟨v', y1, y2, y3⟩ := p3 j v ev
                refine ⟨v', ?_, y2.mono hc, y3⟩
                rw [s3 _ (.inl (by omega)), y1]
              · rw [List.getElem?_append_right (by omega)] at ev
                obtain ⟨v', y1, y2⟩ := q1.2 _ v ev
                have hjc := (List.getElem?_eq_some_iff.1 y1).1
                refine ⟨v', ?_, y2.mono hc, q2 v (List.mem_of_getElem? ev)⟩
                have := s4 (j - rc.length) hjc (by omega)
                rw [show (ι id).o + j = (ι id).o + len * i.size + (j - rc.length) by omega, this, y1]
            · exact Step.upd (live_lt hid) k1 hlive (fun _ _ => rfl) hc (by rw [setCells_size]; exact Nat.le_refl _) (.inl rfl) (fun b _ hb => setCells_other _ _ _ _ hb)
          · -- a new row
            have r1 : Rel w0 l0 ι h w.drew := r.world rfl rfl rfl rfl
            obtain ⟨cs', q1, q2, q3⟩ := srcCells_sound r1 (P := P) hcs hx hn (Nat.le_refl _)
            have hcut : cut rc 0 (len * i.size) = some rc := by
              unfold cut
              rw [if_pos (by omega)]
              simp [k4]
            obtain ⟨old', o1, o2, o3⟩ := r1.load (P := P) hrow hcut
            have hold : (Builtin.firstCells i.size len (.slice (some a) len c')).run P w.drew = .ok old'.toArray w.drew := by
              simp only [Builtin.firstCells]
              rcases ha with hz0 | ha'
              · have : len = 0 := by omega
                subst this
                simp at o3 ⊢
                simpa [loadCells, loadCellsFrom] using o3
              · rw [ha']; exact o3
            obtain ⟨cap2, rest, c1, c2, c3⟩ := run_append_grow (ty := ty) hsT hi hz hxT hd (hlen w) hroom k5 hb hold q3
            have hrs : rest.size = (cap2 - (len + n)) * i.size := by rw [c2, zeroCells_size, hzs]
            let ι' : Iota := fun j => if j = id then ⟨w.heap.size, 0, (old'.toArray ++ cs'.toArray ++ rest).size⟩ else ι j
            have hι : ∀ j, j ≠ id → ι' j = ι j := fun j hj => by simp [ι', hj]
            have hn' : ι' id = ⟨w.heap.size, 0, (old'.toArray ++ cs'.toArray ++ rest).size⟩ := by simp [ι']
            have hc : Compat ι h ι' (h.set id (.row (g + 1) sz (rc ++ cs))) := compat_bump hrow (by omega) hι
            have hpush : ∀ b, b < w.heap.size → (w.heap.push (Obj.cells (old'.toArray ++ cs'.toArray ++ rest) e))[b]? = w.heap[b]? := fun b hb => by rw [Array.getElem?_push, if_neg (by omega)]
            refine ⟨_, _, ι', c3, ?_, ?_, ?_⟩
            · refine .slice (live_set (.inl ⟨_, _, _, rfl⟩) hid) (by omega) (by omega) fun g' sz2 cs2 ex => ?_
              rw [List.getElem?_set_self (live_lt hid)] at ex
              injection ex with ex; injection ex with x1 x2 x3
              subst x1 x2
              refine ⟨Nat.le_refl _, fun _ => ?_⟩
              rw [hn']
              refine ⟨.inr rfl, ?_⟩
              rw [hw]
              simp only [Array.size_append, List.size_toArray, hrs, ← q1.1, ← o1.1, hcl, ← k4]
              have e1 : len * i.size + n * i.size = (len + n) * i.size := (Nat.add_mul _ _ _).symm
              have e2 : (len + n) * i.size + (cap2 - (len + n)) * i.size = cap2 * i.size := by rw [← Nat.add_mul]; congr 1; omega
              omega
            · refine r.upd (live_lt hid) (by omega) hι ⟨r.below.os, r.below.tape, r.below.output, by simp; have := r.below.size; omega, fun k hk => ?_⟩ (fun j hj lj => hpush _ (r.blt lj)) hc
                (fun j hj lj y => ?_) (fun g2 sz2 cs2 e2 => ?_) (fun es e2 => by cases e2)
              · have := r.below.size
                exact (hpush k (by omega)).trans (r.below.block k hk)
              · rw [hn'] at y
                have := r.blt lj
                simp at y; omega
              · injection e2 with x1 x2 x3
                subst x1 x2 x3
                rw [hn']
                refine ⟨r.below.size, _, e, (0, 0), by simp, rfl, fun j v ev => ?_, fun _ j _ hj => by simp at hj, fun q => ⟨htg q, rfl, fun q0 => by omega⟩⟩
                by_cases hj : j < rc.length
                · rw [List.getElem?_append_left hj] at ev
                  obtain ⟨v', y1, y2⟩ := o1.2 j v ev
                  refine ⟨v', ?_, y2.mono hc, o2 v (List.mem_of_getElem? ev)⟩
                  have hjo := (List.getElem?_eq_some_iff.1 y1).1
                  rw [Nat.zero_add, Array.getElem?_append_left (by simp; omega), Array.getElem?_append_left (by simpa using hjo)]
                  simpa using y1
                · rw [List.getElem?_append_right (by omega)] at ev
                  obtain ⟨v', y1, y2⟩ := q1.2 _ v ev
                  refine ⟨v', ?_, y2.mono hc, q2 v (List.mem_of_getElem? ev)⟩
                  have hjc := (List.getElem?_eq_some_iff.1 y1).1
                  have ho1 := o1.1
                  rw [Nat.zero_add, Array.getElem?_append_left (by simp; omega), Array.getElem?_append_right (by simp; omega)]
                  simp only [List.size_toArray, ← ho1]
                  simpa using y1
            · refine Step.upd (live_lt hid) k1 hlive hι hc (by simp) (.inr (by rw [hn']; exact Nat.le_refl _)) (fun b hb _ => hpush b hb)
        · cases he
  | _ => simp at he

end Go.Abs
namespace Go.Abs
open Go.RowKit
set_option linter.unusedSimpArgs false

structure FR (ι : Iota) (h : AH) (fr : Frm) (a : Act) : Prop where
  len : fr.length = a.tmps.size
  val : ∀ (t : Nat) s, fr[t]? = some s → (s.g = true → VR ι h s.v (a.tmps.getD t undef)) ∧ (s.g = false → s.u = true → a.tmps.getD t undef = undef)

theorem FR.mono {ι h ι' h' fr a} (c : Compat ι h ι' h') (f : FR ι h fr a) : FR ι' h' fr a :=
  ⟨f.len, fun t s e => ⟨fun hg => (( f.val t s e).1 hg).mono c, (f.val t s e).2⟩⟩

theorem FR.put {ι h fr a} (f : FR ι h fr a) {d : Option Tmp} {s : Slot} {v' : Value} (hv : s.g = true → VR ι h s.v v') (hu : s.g = false → s.u = true → v' = undef) : FR ι h (put fr d s) (a.put d v') := by
  cases d with
  | none => exact f
  | some d =>
    refine ⟨by simp [Abs.put, Act.put, f.len], fun t x e => ?_⟩
    simp only [Abs.put] at e
    by_cases ht : t = d
    · subst ht
      have hlt : t < fr.length := by have := (List.getElem?_eq_some_iff.1 e).1; simpa using this
      rw [List.getElem?_set_self hlt] at e
      injection e with e; subst e
      have hlt' : t < a.tmps.size := by rw [← f.len]; exact hlt
      have : (a.tmps.setIfInBounds t v').getD t undef = v' := by simp [Array.getD, hlt']
      simp only [Act.put, this]
      exact ⟨hv, hu⟩
    · rw [List.getElem?_set_ne (fun e => ht e.symm)] at e
      have : (a.tmps.setIfInBounds d v').getD t undef = a.tmps.getD t undef := by
        simp only [Array.getD_eq_getD_getElem?]
        rw [Array.getElem?_setIfInBounds_ne (fun e => ht e.symm)]
      simp only [Act.put, this]
      exact f.val t x e

theorem flat0_sound {ι h v} (e : flat0 v = true) : VR ι h v v := by
  unfold flat0 at e
  split at e <;> first | (cases e; done) | constructor

theorem flat0_one {v} (e : flat0 v = true) : oneCell v = true := by
  unfold flat0 at e
  split at e <;> first | (cases e; done) | rfl

theorem flat_sound {ι h v} (e : flat v = true) : VR ι h v v := by
  unfold flat at e
  split at e
  · rename_i cs
    refine .agg rfl (fun i a _ => ?_) (fun v hv => ?_)
    · exact flat0_sound (List.all_eq_true.1 e _ (by simp))
    · exact flat0_one (List.all_eq_true.1 e _ hv)
  · exact .iface _ (flat0_sound e)
  · exact flat0_sound e

theorem slot_sound {ι h fr a} (f : FR ι h fr a) {x : Operand} (hg : (slot fr x).g = true) : VR ι h (slot fr x).v (a.eval x) := by
  cases x with
  | tmp t =>
    simp only [slot, List.getD_eq_getElem?_getD] at hg ⊢
    cases e : fr[t]? with
    | none => simp [e] at hg
    | some s => simp [e] at hg ⊢; exact (f.val t s e).1 hg
  | const v => exact flat_sound hg
  | global g => simp [slot] at hg
  | func f => exact .func _ rfl (fun i a _ => absurd a (by simp)) rfl (fun i a _ => absurd a (by simp))

/-! ### combinators, where the operation is carried out -/
def Acts (act : Option Bool) : Prop := ∀ q, act = some q → q = true

theorem useG_some {act g X out} (ha : Acts act) (e : useG act g X = some out) : g = true ∧ X = some out := by
  unfold useG at e
  split at e
  · exact ⟨rfl, e⟩
  · split at e
    · cases e
    · rename_i a; have := ha a rfl; subst this; simp at e
theorem use_some {act s X out} (ha : Acts act) (e : use act s X = some out) : s.g = true ∧ X s.v = some out := useG_some ha e
theorem oE_some {α : Type} {act} {x : Option α} {d K out} (ha : Acts act) (e : oE act x d K = some out) : ∃ v, x = some v ∧ K v = some out := by
  unfold oE at e
  split at e
  · exact ⟨_, rfl, e⟩
  · split at e
    · cases e
    · rename_i a; have := ha a rfl; subst this; simp at e
theorem heapE_some {α : Type} {act} {x : Option α} {d K out} (ha : Acts act) (e : heapE act x d K = some out) : ∃ v, x = some v ∧ K v = some out := by
  unfold heapE at e
  split at e
  · simpa [Option.bind_eq_some_iff] using e
  · rename_i a; have := ha a rfl; subst this
    simpa [Option.bind_eq_some_iff] using e
theorem mk2_some {act v h' h K out} (ha : Acts act) (e : mk2 act v h' h K = some out) : K (mkS act v) h' = some out := by
  obtain ⟨p, e1, e2⟩ := heapE_some ha e
  injection e1 with e1; subst e1; exact e2
theorem callE_some {act x d h K pan out} (ha : Acts act) (e : callE act x d h K pan = some out) : onRet x K pan = some out := by
  unfold callE at e
  split at e
  · exact e
  · rename_i a; have := ha a rfl; subst this; exact e
theorem mkS_g {act v} (ha : Acts act) : (mkS act v).g = true ∧ (mkS act v).v = v := by
  cases act with
  | none => exact ⟨rfl, rfl⟩
  | some q => have := ha q rfl; subst this; exact ⟨rfl, rfl⟩
theorem chk_some {g X out} (e : chk g X = some out) : g = true ∧ X = some out := by
  unfold chk at e; split at e
  · exact ⟨rfl, e⟩
  · cases e
theorem asInt_some {k v K out} (e : asInt k v K = some out) : ∃ n, v = .int k n ∧ K n = some out := by
  unfold asInt at e
  split at e
  · split at e
    · rename_i h; subst h; exact ⟨_, rfl, e⟩
    · cases e
  · cases e
theorem asBool_some {v K out} (e : asBool v K = some out) : ∃ b, v = .bool b ∧ K b = some out := by
  unfold asBool at e; split at e
  · exact ⟨_, rfl, e⟩
  · cases e
theorem asStr_some {v K out} (e : asStr v K = some out) : ∃ b, v = .string b ∧ K b = some out := by
  unfold asStr at e; split at e
  · exact ⟨_, rfl, e⟩
  · cases e
theorem ty1_some {P t v K out} (e : ty1 P t v K = some out) : K v = some out := by
  unfold ty1 at e
  split at e
  · obtain ⟨n, rfl, h⟩ := asInt_some e; exact h
  · obtain ⟨n, rfl, h⟩ := asBool_some e; exact h
  · obtain ⟨n, rfl, h⟩ := asStr_some e; exact h
  · exact e
theorem tyL_some {P : Program} : ∀ (ts : List TypeId) (l : List Value) (K : List Value → R) {out}, tyL P ts l K = some out → K l = some out
  | [], l, K, out, e => by
    simp only [tyL] at e
    unfold nilL at e
    split at e
    · exact e
    · cases e
  | t :: ts, l, K, out, e => by
    simp only [tyL] at e
    unfold unc at e
    split at e
    · have := ty1_some e
      exact tyL_some ts _ (fun r => K (_ :: r)) this
    · cases e
theorem ty_some {P t v K out} (e : ty P t v K = some out) : K v = some out := by
  unfold ty at e
  split at e
  · unfold asTup at e
    split at e
    · exact tyL_some _ _ _ e
    · cases e
  · exact ty1_some e
theorem onRet_some {x K pan out} (e : onRet x K pan = some out) : (∃ v h, x = some (.ret v h) ∧ K v h = some out) ∨ (∃ v h, x = some (.pan v h) ∧ pan v h = some out) := by
  unfold onRet at e
  split at e
  · split at e
    · exact .inl ⟨_, _, rfl, e⟩
    · exact .inr ⟨_, _, rfl, e⟩
  · cases e
theorem noTup_some {v X out} (e : noTup v X = some out) : (∀ vs, v ≠ .tuple vs) ∧ X = some out := by
  unfold noTup at e
  split at e
  · cases e
  · rename_i h; exact ⟨h, e⟩
theorem noTups_some : ∀ {vs : List Value} {X out}, noTups vs X = some out → (∀ v ∈ vs, ∀ ws, v ≠ .tuple ws) ∧ X = some out
  | [], X, out, e => ⟨by simp, e⟩
  | v :: vs, X, out, e => by
    obtain ⟨h1, h2⟩ := noTup_some e
    obtain ⟨h3, h4⟩ := noTups_some h2
    exact ⟨fun x hx => by cases hx with | head => exact h1 | tail _ hx => exact h3 x hx, h4⟩
theorem useL_some {act} (ha : Acts act) : ∀ {ss : List Slot} {X out}, useL act ss X = some out → (∀ s ∈ ss, s.g = true) ∧ X (ss.map (·.v)) = some out
  | [], X, out, e => ⟨by simp, e⟩
  | s :: ss, X, out, e => by
    obtain ⟨h1, h2⟩ := use_some ha e
    obtain ⟨h3, h4⟩ := useL_some ha h2
    exact ⟨fun x hx => by cases hx with | head => exact h1 | tail _ hx => exact h3 x hx, h4⟩
theorem useO_some {act fr x X out} (ha : Acts act) (e : useO act fr x X = some out) : (x = none ∧ X none = some out) ∨ (∃ y k n, x = some y ∧ (slot fr y).g = true ∧ (slot fr y).v = .int k n ∧ X (some n) = some out) := by
  cases x with
  | none => exact .inl ⟨rfl, e⟩
  | some y =>
    simp only [useO] at e
    obtain ⟨h1, h2⟩ := use_some ha e
    split at h2
    · rename_i k n hv; exact .inr ⟨y, k, n, rfl, h1, hv, h2⟩
    · cases h2

theorem slots_sound {ι h fr a} (f : FR ι h fr a) : ∀ {xs : List Operand}, (∀ s ∈ xs.map (slot fr), s.g = true) → LR ι h ((xs.map (slot fr)).map (·.v)) (xs.map a.eval)
  | [], _ => LR.nil
  | x :: xs, hg => by
    have h1 := slot_sound f (x := x) (hg (slot fr x) (by simp))
    have h2 := slots_sound f (xs := xs) (fun s hs => hg s (by simp at hs ⊢; exact .inr hs))
    exact (LR.one h1).append h2

/-! ### types -/
theorem info_of {P : Program} {t : TypeId} {d : TypeDesc} (e : P.underlying t = some d) : ∃ i, P.info? t = some i := by
  unfold Program.underlying at e
  cases h : P.info? t with
  | none => simp [h] at e
  | some i => exact ⟨i, rfl⟩
theorem run_sizeT {P : Program} {t : TypeId} {d : TypeDesc} (e : P.underlying t = some d) (w : World) : (sizeOf t).run P w = .ok (sizeT P t) w := by
  obtain ⟨i, h⟩ := info_of e
  simp [sizeOf, typeInfo, sizeT, h]
theorem run_sizeO {P : Program} {t : TypeId} {n : Nat} (e : sizeO P t = some n) (w : World) : (sizeOf t).run P w = .ok n w := by
  unfold sizeO at e
  cases h : P.info? t with
  | none => simp [h] at e
  | some i => simp [h] at e; simp [sizeOf, typeInfo, h, e]
theorem aggK_some {P : Program} {t : TypeId} {n : Nat} (e : aggK P t = some (some n)) (w : World) : (isAgg t).run P w = .ok true w ∧ (sizeOf t).run P w = .ok n w := by
  unfold aggK at e
  split at e
  · cases e
  · rename_i hu; injection e with e; injection e with e; subst e; exact ⟨by simp [isAgg, run_underlying hu], run_sizeT hu w⟩
  · rename_i hu; injection e with e; injection e with e; subst e; exact ⟨by simp [isAgg, run_underlying hu], run_sizeT hu w⟩
  · cases e
theorem aggK_none {P : Program} {t : TypeId} (e : aggK P t = some none) (w : World) : (isAgg t).run P w = .ok false w := by
  unfold aggK at e
  split at e
  · cases e
  · cases e
  · cases e
  · rename_i d h1 h2 hu
    simp only [isAgg, Sem.run_bind, run_underlying hu, Result.andThen_ok]
    cases d <;> first | rfl | exact absurd hu (h1 _) | exact absurd hu (h2 _ _)

end Go.Abs
namespace Go.Abs
open Go.RowKit
set_option linter.unusedSimpArgs false
set_option linter.unusedVariables false

theorem VR.bool_inv {ι h q v'} (r : VR ι h (.bool q) v') : v' = .bool q := by cases r; rfl
theorem VR.int_inv {ι h k n v'} (r : VR ι h (.int k n) v') : v' = .int k n := by cases r; rfl
theorem VR.str_inv {ι h s v'} (r : VR ι h (.string s) v') : v' = .string s := by cases r; rfl

theorem pickV_sound {ι h} {q : Bool} {x y x' y' : Value} (hx : q = true → VR ι h x x') (hy : q = false → VR ι h y y') : VR ι h (pickV q x y) (if q then x' else y') := by
  unfold pickV
  split
  · cases q
    · have := hy rfl; cases this; exact .bool _
    · have := hx rfl; cases this; exact .bool _
  · split
    · rename_i hk; subst hk
      cases q
      · have := hy rfl; cases this; exact .int _ _
      · have := hx rfl; cases this; exact .int _ _
    · cases q
      · exact hy rfl
      · exact hx rfl
  · cases q
    · have := hy rfl; cases this; exact .str _
    · have := hx rfl; cases this; exact .str _
  · cases q
    · exact hy rfl
    · exact hx rfl

theorem ld_sound {w0 l0 ι h w} (r : Rel w0 l0 ι h w) {p p' v : Value} (hp : VR ι h p p') (e : ld h p = some v) : ∃ b off v', p' = .pointer (some ⟨b, off, none⟩) ∧ w.cell? ⟨b, off, none⟩ = some v' ∧ VR ι h v v' ∧ oneCell v = true := by
  unfold ld at e
  split at e
  · rename_i id off g
    simp only [Option.bind_eq_some_iff] at e
    obtain ⟨rr, e1, e2⟩ := e
    have hrow := rowAt_some e1
    cases hp with
    | ptr hid hr =>
      obtain ⟨_, hq⟩ := hr _ _ _ hrow
      have := hq rfl
      subst this
      obtain ⟨cs', q1, q2, q3⟩ := r.cells hrow
      obtain ⟨v', z1, z2⟩ := q1.2 _ _ e2
      exact ⟨_, _, v', rfl, by rw [Nat.add_comm (ι id).o off, Nat.add_comm off]; exact q3 _ _ z1, z2, q2 _ (List.mem_of_getElem? e2)⟩
  · cases e

theorem ldN_sound {w0 l0 ι h w} (r : Rel w0 l0 ι h w) {P : Program} {p p' : Value} {n : Nat} {l : List Value} (hp : VR ι h p p') (e : ldN h p n = some l) :
    ∃ ad l', p' = .pointer (some ad) ∧ (loadCells ad n).run P w = .ok l'.toArray w ∧ LR ι h l l' ∧ (∀ v ∈ l, oneCell v = true) := by
  unfold ldN at e
  split at e
  · rename_i id off g
    simp only [Option.bind_eq_some_iff] at e
    obtain ⟨rr, e1, e2⟩ := e
    have hrow := rowAt_some e1
    cases hp with
    | ptr hid hr =>
      obtain ⟨_, hq⟩ := hr _ _ _ hrow
      have := hq rfl
      subst this
      obtain ⟨l', q1, q2, q3⟩ := r.load (P := P) hrow e2
      exact ⟨_, l', rfl, q3, q1, q2⟩
  · cases e

theorem LR.agg {ι : Iota} {h : AH} {l l' : List Value} (q : LR ι h l l') (ho : ∀ v ∈ l, oneCell v = true) : VR ι h (.agg l.toArray) (.agg l'.toArray) :=
  .agg q.to_agg.1 q.to_agg.2 (by simpa using ho)

theorem stN_sound {w0 l0 lim ι h w} (r : Rel w0 l0 ι h w) {P : Program} (hl0 : l0 ≤ lim) {p p' : Value} {vs vs' : List Value} {h' : AH} (hp : VR ι h p p') (e : stN lim h p vs = some h') (hv : LR ι h vs vs') :
    ∃ ad w', p' = .pointer (some ad) ∧ (storeCells ad vs').run P w = .ok () w' ∧ Rel w0 l0 ι h' w' ∧ Step lim ι h w ι h' w' := by
  unfold stN at e
  split at e
  · rename_i id off g
    simp only [Option.bind_eq_some_iff] at e
    obtain ⟨rr, e1, e2⟩ := e
    have hrow := rowAt_some e1
    split at e2
    · rename_i hc
      obtain ⟨c1, c2, c3⟩ := hc
      injection e2 with e2; subst e2
      cases hp with
      | ptr hid hr =>
        obtain ⟨_, hq⟩ := hr _ _ _ hrow
        have := hq rfl
        subst this
        obtain ⟨w', m1, m2, m3, _⟩ := Rel.setMany hl0 P vs vs' r hrow c1 c2 hv (fun v hv => List.all_eq_true.1 c3 v hv)
        exact ⟨_, w', rfl, m1, m2, m3⟩
    · cases e2
  · cases e

theorem aggOf_sound {ι h} {v v' : Value} {cs : List Value} (hv : VR ι h v v') (e : aggOf v = some cs) : ∃ cs', v' = .agg cs'.toArray ∧ LR ι h cs cs' ∧ ∀ v ∈ cs, oneCell v = true := by
  cases hv <;> simp [aggOf] at e
  rename_i x x' hs hxv ho
  subst e
  exact ⟨x'.toList, by simp, LR.of_agg hs hxv, ho⟩

def NextOk (w0 : World) (l0 lim : Nat) (ι : Iota) (h : AH) (w : World) (a : Act) (o : Oper) (K : Slot → AH → R) (out : Out) (next : Act → World → Prop) : Prop :=
  ∀ s h' v' w' ι', K s h' = some out → Rel w0 l0 ι' h' w' → Step lim ι h w ι' h' w' → s.g = true → VR ι' h' s.v v' → next (a.put o.dst v') w'

section
variable {V : Env} {C : Hnd} {w0 : World} {l0 lim : Nat} {ι : Iota} {h : AH} {w : World} {fr : Frm} {a : Act} {o : Oper} {act : Option Bool} {K : Slot → AH → R} {pan : Value → AH → R} {out : Out} {next : Act → World → Prop} {Q : Exit → Act → World → Prop}

theorem fin (ha : Acts act) (N : NextOk w0 l0 lim ι h w a o K out next) {v v' : Value} {h' : AH} {w' : World} {ι' : Iota} (hk : K (mkS act v) h' = some out)
    (hrun : (execOp a.eval o).run V.P w = .ok (.value v') w') (hv : VR ι' h' v v') (r : Rel w0 l0 ι' h' w') (s : Step lim ι h w ι' h' w') : o.wp V.P a w next Q := by
  unfold Oper.wp
  rw [hrun]
  obtain ⟨g1, g2⟩ := mkS_g (v := v) ha
  exact N _ _ _ _ _ hk r s g1 (by rw [g2]; exact hv)

theorem fin0 (r : Rel w0 l0 ι h w) (ha : Acts act) (N : NextOk w0 l0 lim ι h w a o K out next) {v v' : Value} (hk : K (mkS act v) h = some out)
    (hrun : (execOp a.eval o).run V.P w = .ok (.value v') w) (hv : VR ι h v v') : o.wp V.P a w next Q :=
  fin ha N hk hrun hv r (Step.refl _ _ _ _)

theorem finS (ha : Acts act) (N : NextOk w0 l0 lim ι h w a o K out next) {h' : AH} {w' : World} {ι' : Iota} (hk : K (mkS act undef) h' = some out)
    (hrun : (execOp a.eval o).run V.P w = .ok .skip w') (r : Rel w0 l0 ι' h' w') (s : Step lim ι h w ι' h' w') : o.wp V.P a w next Q := by
  unfold Oper.wp
  rw [hrun]
  obtain ⟨g1, g2⟩ := mkS_g (v := undef) ha
  exact N _ _ _ _ _ hk r s g1 (by rw [g2]; exact .tuple rfl (fun i a _ => absurd a (by simp)))

variable (r : Rel w0 l0 ι h w) (hl0 : l0 ≤ lim) (f : FR ι h fr a) (ha : Acts act) (N : NextOk w0 l0 lim ι h w a o K out next)
include r f ha N

theorem snd_move {x : Operand} (ho : o.op = .move x ∨ o.op = .assign x) (e : opK V C lim pan fr h o act K = some out) : o.wp V.P a w next Q := by
  rcases ho with ho | ho <;>
  · simp only [opK, ho] at e
    obtain ⟨h1, h2⟩ := use_some ha e
    exact fin0 r ha N h2 (by simp only [execOp, ho, Sem.run_pure]) (slot_sound f h1)

theorem snd_pick {c x y : Operand} (ho : o.op = .pick c x y) (e : opK V C lim pan fr h o act K = some out) : o.wp V.P a w next Q := by
  simp only [opK, ho] at e
  obtain ⟨h1, h2⟩ := use_some ha e
  have hc := slot_sound f h1
  split at h2
  · rename_i q hq
    obtain ⟨h3, h4⟩ := useG_some ha h2
    rw [hq] at hc
    have hc' : a.eval c = .bool q := hc.bool_inv
    refine fin0 r ha N h4 (v' := if q then a.eval x else a.eval y) ?_ (pickV_sound (fun hq => ?_) (fun hq => ?_))
    · simp [execOp, ho, hc', Go.asBool]
    · subst hq
      refine slot_sound f ?_
      unfold pickG at h3
      split at h3
      · assumption
      · simp at h3
    · subst hq
      refine slot_sound f ?_
      unfold pickG at h3
      split at h3
      · split at h3
        · assumption
        · simp at h3
      · simpa using h3
  · cases h2

theorem snd_load {t : TypeId} {x : Operand} (ho : o.op = .load t x) (e : opK V C lim pan fr h o act K = some out) : o.wp V.P a w next Q := by
  simp only [opK, ho] at e
  obtain ⟨h1, h2⟩ := use_some ha e
  have hp := slot_sound f h1
  split at h2
  · rename_i n hk
    obtain ⟨l, e1, e2⟩ := oE_some ha h2
    obtain ⟨ad, l', q1, q2, q3, q4⟩ := ldN_sound r (P := V.P) hp e1
    obtain ⟨k1, k2⟩ := aggK_some hk w
    refine fin0 r ha N e2 (v' := .agg l'.toArray) ?_ (LR.agg q3 q4)
    simp [execOp, ho, Instr.loadAt, Instr.sureAddr, q1, loadVar, k1, k2, q2]
  · rename_i hk
    obtain ⟨v, e1, e2⟩ := oE_some ha h2
    have e3 := ty1_some e2
    obtain ⟨b, off, v', q1, q2, q3, q4⟩ := ld_sound r hp e1
    have k1 := aggK_none hk w
    refine fin0 r ha N e3 (v' := v') ?_ q3
    simp [execOp, ho, Instr.loadAt, Instr.sureAddr, q1, loadVar, k1, q2]
  · cases h2

theorem snd_store (hl0 : l0 ≤ lim) {t : TypeId} {x y : Operand} (ho : o.op = .store t x y) (e : opK V C lim pan fr h o act K = some out) : o.wp V.P a w next Q := by
  simp only [opK, ho] at e
  obtain ⟨h1, e⟩ := use_some ha e
  obtain ⟨h2, e⟩ := use_some ha e
  have hp := slot_sound f h1
  have hv := slot_sound f h2
  split at e
  · rename_i n hk
    obtain ⟨h', e1, e2⟩ := heapE_some ha e
    simp only [Option.bind_eq_some_iff] at e1
    obtain ⟨cs, e3, e4⟩ := e1
    split at e4
    · rename_i hn
      obtain ⟨cs', q1, q2, q3⟩ := aggOf_sound hv e3
      obtain ⟨ad, w', z1, z2, z3, z4⟩ := stN_sound r (P := V.P) hl0 hp e4 q2
      obtain ⟨k1, k2⟩ := aggK_some hk w
      have hcs : cs'.length = n := by rw [← q2.1, hn]
      refine finS ha N e2 ?_ z3 z4
      simp [execOp, ho, Instr.storeAt, Instr.sureAddr, z1, q1, storeVar, k2, Value.cells, hcs, z2]
    · cases e4
  · rename_i hk
    split at e
    · rename_i hsz
      obtain ⟨h', e1, e2⟩ := heapE_some ha e
      obtain ⟨ad, w', z1, z2, z3, z4⟩ := stN_sound r (P := V.P) hl0 hp e1 (LR.one hv)
      have hone : oneCell (slot fr y).v = true := by
        unfold stN at e1
        split at e1
        · simp only [Option.bind_eq_some_iff] at e1
          obtain ⟨rr, _, e5⟩ := e1
          split at e5
          · rename_i hc; simpa using hc.2.2
          · cases e5
        · cases e1
      have hcell : (a.eval y).cells = #[a.eval y] := by
        have := hv.one hone
        unfold Value.cells
        split
        · rename_i hh; rw [hh] at this; simp [Value.oneCell'] at this
        · rfl
      refine finS ha N e2 ?_ z3 z4
      simp [execOp, ho, Instr.storeAt, Instr.sureAddr, z1, storeVar, run_sizeO hsz, hcell, z2]
    · cases e
  · cases e

end
end Go.Abs
namespace Go.Abs
open Go.RowKit
set_option linter.unusedSimpArgs false
set_option linter.unusedVariables false
set_option linter.unusedSectionVars false

theorem LR.flat {ι h} {l : List Value} (e : l.all flat0 = true) : LR ι h l l ∧ ∀ v ∈ l, oneCell v = true :=
  ⟨⟨rfl, fun i v ev => ⟨v, ev, flat0_sound (List.all_eq_true.1 e v (List.mem_of_getElem? ev))⟩⟩, fun v hv => flat0_one (List.all_eq_true.1 e v hv)⟩

theorem szC_lt (P : Program) (t : TypeId) : szC P t < 4294967296 := by unfold szC; split <;> omega
theorem szA_tag (P : Program) (t : TypeId) (h : 4294967296 ≤ szA P t) : szA P t / 4294967296 = t + 1 := by
  unfold szA at h ⊢
  split
  · omega
  · rename_i q; rw [if_neg q] at h; exact absurd (szC_lt P t) (by omega)
theorem tgE_tag (P : Program) (e : TypeId) {sz : Nat} (hs : sz < 4294967296) (h : 4294967296 ≤ tgE P e sz) : tgE P e sz / 4294967296 = e + 1 := by
  unfold tgE at h ⊢
  split <;> rename_i q
  · omega
  · split at h
    · rename_i q'; exact absurd q' (q ·)
    · omega
theorem tgE_wd (P : Program) (e : TypeId) {sz : Nat} (hs : sz < 4294967296) : wd (tgE P e sz) = sz := by
  unfold tgE wd
  split <;> omega
/-- a new row of just these cells -/
theorem Rel.new {w0 l0 lim ι h w} (r : Rel w0 l0 ι h w) {cs cs' : List Value} (q : LR ι h cs cs') (ho : ∀ v ∈ cs, oneCell v = true) (t : TypeId) (sz : Nat) (hz : 4294967296 ≤ sz → sz / 4294967296 = t + 1) :
    ∃ ι', ι' h.length = ⟨w.heap.size, 0, cs.length⟩ ∧ Rel w0 l0 ι' (h ++ [.row 0 sz cs]) (w.alloc (.cells cs'.toArray t)) ∧ Step lim ι h w ι' (h ++ [.row 0 sz cs]) (w.alloc (.cells cs'.toArray t)) := by
  obtain ⟨ι', a1, a2, a3⟩ := r.alloc (lim := lim) (cs := cs) (arr := cs'.toArray) (t := t) (fr := (0, 0)) (sz := sz) (fun i v ev => by
    obtain ⟨v', z1, z2⟩ := q.2 i v ev
    exact ⟨v', by simpa using z1, z2, ho v (List.mem_of_getElem? ev)⟩) (fun j _ hj => by simp at hj) (fun q' => ⟨hz q', fun _ => by simp [q.1]⟩) (w' := w.alloc (.cells cs'.toArray t)) rfl rfl rfl rfl
  exact ⟨ι', by rw [a1]; simp [q.1], a2, a3⟩

theorem newP_sound {ι' : Iota} {h : AH} {sz : Nat} {cs : List Value} {b : Nat} {n : Nat} (hn : ι' h.length = ⟨b, 0, n⟩) : VR ι' (h ++ [.row 0 sz cs]) (newP h) (.pointer (some ⟨b, 0, none⟩)) := by
  refine .ptr (.inl ⟨0, sz, cs, by simp⟩) fun g' sz' cs' e => ?_
  simp at e
  obtain ⟨e1, _, _⟩ := e
  subst e1
  exact ⟨Nat.le_refl _, fun _ => by rw [hn]⟩

theorem newS_sound {ι' : Iota} {h : AH} {sz : Nat} {cs : List Value} {b top n c c' : Nat} (hn : ι' h.length = ⟨b, 0, top⟩) (h1 : n ≤ c') (h2 : c ≤ c') (h3 : c' * wd sz ≤ top) :
    VR ι' (h ++ [.row 0 sz cs]) (newS h n c) (.slice (some ⟨b, 0, none⟩) n c') := by
  refine .slice (.inl ⟨0, sz, cs, by simp⟩) h1 h2 fun g' sz' cs' e => ?_
  simp at e
  obtain ⟨e1, e2, _⟩ := e
  subst e1 e2
  exact ⟨Nat.le_refl _, fun _ => by rw [hn]; exact ⟨.inr rfl, by simpa using h3⟩⟩

theorem cells_sound {ι h v v'} (r : VR ι h v v') (hv : ∀ vs, v ≠ .tuple vs) : LR ι h v.cells.toList v'.cells.toList ∧ ∀ x ∈ v.cells.toList, oneCell x = true := by
  cases r with
  | agg hs hxv ho => exact ⟨LR.of_agg hs hxv, ho⟩
  | tuple => exact absurd rfl (hv _)
  | bool b => exact ⟨LR.one (.bool b), by simp [Value.cells, oneCell]⟩
  | int k n => exact ⟨LR.one (.int k n), by simp [Value.cells, oneCell]⟩
  | str s => exact ⟨LR.one (.str s), by simp [Value.cells, oneCell]⟩
  | nilFunc => exact ⟨LR.one .nilFunc, by simp [Value.cells, oneCell]⟩
  | nilIface => exact ⟨LR.one .nilIface, by simp [Value.cells, oneCell]⟩
  | pnil => exact ⟨LR.one .pnil, by simp [Value.cells, oneCell]⟩
  | ptr a b => exact ⟨LR.one (.ptr a b), by simp [Value.cells, oneCell]⟩
  | snil => exact ⟨LR.one .snil, by simp [Value.cells, oneCell]⟩
  | slice a b c d => exact ⟨LR.one (.slice a b c d), by simp [Value.cells, oneCell]⟩
  | mnil => exact ⟨LR.one .mnil, by simp [Value.cells, oneCell]⟩
  | map a b => exact ⟨LR.one (.map a b), by simp [Value.cells, oneCell]⟩
  | func fn a b c d => exact ⟨LR.one (.func fn a b c d), by simp [Value.cells, oneCell]⟩
  | iface t a => exact ⟨LR.one (.iface t a), by simp [Value.cells, oneCell]⟩

theorem addOff_sound {ι h v v' u n} (r : VR ι h v v') (e : addOff v n = some u) : ∃ ad, v' = .pointer (some ad) ∧ VR ι h u (.pointer (some (ad.add n))) := by
  unfold addOff at e
  split at e
  · rename_i id off g
    injection e with e; subst e
    cases r with
    | ptr hid hr =>
      refine ⟨_, rfl, .ptr hid fun g' sz cs ex => ?_⟩
      obtain ⟨l, q⟩ := hr _ _ _ ex
      refine ⟨l, fun hg => ?_⟩
      rw [q hg, add_at, Nat.add_assoc]
  · cases e

theorem zero_cells (P : Program) {t : TypeId} {z : Value} (e : zeroOf P t = some z) (w : World) : (zeroValue t).run P w = .ok z w := by
  unfold zeroOf at e
  cases h : P.info? t with
  | none => simp [h] at e
  | some i => simp [h] at e; simp [zeroValue, typeInfo, h, e]

theorem ixAddr_sound {ι h v v' u i size} (q : VR ι h v v') (e : ixAddr v i size = some u) : ∃ ad len c, v' = .slice (some ad) len c ∧ 0 ≤ i ∧ i < (len : Int) ∧ VR ι h u (.pointer (some (ad.add (i.toNat * size)))) := by
  unfold ixAddr at e
  split at e
  · rename_i id off g n c
    split at e
    · rename_i hi
      injection e with e; subst e
      cases q with
      | slice hid hn hc hr =>
        refine ⟨_, _, _, rfl, hi.1, hi.2, .ptr hid fun g' sz cs ex => ?_⟩
        obtain ⟨l, q⟩ := hr _ _ _ ex
        refine ⟨l, fun hg => ?_⟩
        obtain ⟨q1, _⟩ := q hg
        rw [q1.resolve_left (by omega), add_at, Nat.add_assoc]
    · cases e
  · cases e

theorem tuple_inv {ι h v v'} (q : VR ι h v v') {x : Array Value} (e : v = .tuple x) : ∃ x', v' = .tuple x' ∧ LR ι h x.toList x'.toList := by
  cases q <;> cases e
  rename_i x' hx hxv
  exact ⟨x', rfl, LR.of_agg hx hxv⟩

section
variable {V : Env} {C : Hnd} {w0 : World} {l0 lim : Nat} {ι : Iota} {h : AH} {w : World} {fr : Frm} {a : Act} {o : Oper} {act : Option Bool} {K : Slot → AH → R} {pan : Value → AH → R} {out : Out} {next : Act → World → Prop} {Q : Exit → Act → World → Prop}
variable (r : Rel w0 l0 ι h w) (f : FR ι h fr a) (ha : Acts act) (N : NextOk w0 l0 lim ι h w a o K out next)
include r f ha N

theorem snd_alloc {t : TypeId} (ho : o.op = .alloc t) (e : opK V C lim pan fr h o act K = some out) : o.wp V.P a w next Q := by
  simp only [opK, ho] at e
  split at e
  · rename_i z hz
    obtain ⟨hfl, e⟩ := chk_some e
    have e := mk2_some ha e
    obtain ⟨q1, q2⟩ := LR.flat (ι := ι) (h := h) hfl
    obtain ⟨ι', a1, a2, a3⟩ := r.new (lim := lim) q1 q2 t (szA V.P t) (szA_tag _ _)
    refine fin ha N e (v' := .pointer (some ⟨w.heap.size, 0, none⟩)) ?_ (newP_sound a1) a2 a3
    simp [execOp, ho, Instr.alloc, zero_cells V.P hz, newVar, newRow]
  · cases e

theorem snd_box {t : TypeId} {x : Operand} (ho : o.op = .box t x) (e : opK V C lim pan fr h o act K = some out) : o.wp V.P a w next Q := by
  simp only [opK, ho] at e
  obtain ⟨h1, e⟩ := use_some ha e
  obtain ⟨h2, e⟩ := noTup_some e
  have e := mk2_some ha e
  obtain ⟨q1, q2⟩ := cells_sound (slot_sound f h1) h2
  obtain ⟨ι', a1, a2, a3⟩ := r.new (lim := lim) q1 q2 t (szC V.P t) (fun q => absurd (szC_lt V.P t) (by omega))
  refine fin ha N e (v' := .pointer (some ⟨w.heap.size, 0, none⟩)) ?_ (newP_sound a1) a2 a3
  simp [execOp, ho, Instr.box, newVar, newRow]

theorem snd_fieldAddr {t : TypeId} {x : Operand} {i : Nat} (ho : o.op = .fieldAddr t x i) (e : opK V C lim pan fr h o act K = some out) : o.wp V.P a w next Q := by
  simp only [opK, ho] at e
  obtain ⟨h1, e⟩ := use_some ha e
  split at e
  · rename_i off ft hf
    split at e
    · cases e
    · rename_i hsz
      obtain ⟨v, e1, e2⟩ := oE_some ha e
      obtain ⟨ad, q1, q2⟩ := addOff_sound (slot_sound f h1) e1
      unfold fieldOf at hf
      split at hf
      · rename_i fs hu
        cases hfi : fs[i]? with
        | none => simp [hfi] at hf
        | some fd =>
          simp [hfi] at hf
          obtain ⟨b1, b2⟩ := hf
          subst b1 b2
          refine fin0 r ha N e2 (v' := .pointer (some (ad.add fd.offset))) ?_ q2
          have hso : (sizeOf fd.type).run V.P w = .ok (sizeT V.P fd.type) w := by
            unfold sizeT at hsz ⊢
            cases hi : V.P.info? fd.type with
            | none => simp [hi] at hsz
            | some ti => simp [sizeOf, typeInfo, hi]
          simp [execOp, ho, Instr.fieldAt, run_underlying hu, hfi, q1, Instr.sureAddr, fieldPlace, hso, hsz]
      · cases hf
  · cases e

theorem snd_indexAddr {t : TypeId} {x y : Operand} (ho : o.op = .indexAddr t x y) (e : opK V C lim pan fr h o act K = some out) : o.wp V.P a w next Q := by
  simp only [opK, ho] at e
  obtain ⟨h1, e⟩ := use_some ha e
  obtain ⟨h2, e⟩ := use_some ha e
  split at e
  · rename_i k n sz hk hsz
    obtain ⟨v, e1, e2⟩ := oE_some ha e
    obtain ⟨ad, len, c, q1, q2, q3, q4⟩ := ixAddr_sound (slot_sound f h1) e1
    have hi := slot_sound f h2
    rw [hk] at hi
    have hi := hi.int_inv
    simp only [Option.bind_eq_some_iff] at hsz
    obtain ⟨el, el1, el2⟩ := hsz
    unfold elemT at el1
    split at el1
    · rename_i e' hu
      injection el1 with el1; subst el1
      refine fin0 r ha N e2 (v' := .pointer (some (ad.add (n.toNat * sz)))) ?_ q4
      simp [execOp, ho, Instr.indexAt, asIntOf, hi, run_underlying hu, q1, q2, q3, run_sizeO el2]
    · cases el1
  · rename_i k n hk hsz
    split at e
    · rename_i p hp
      obtain ⟨v, e1, e2⟩ := oE_some ha e
      unfold ixArr at e1
      split at e1
      · rename_i hn
        obtain ⟨ad, q1, q2⟩ := addOff_sound (slot_sound f h1) e1
        have hi := slot_sound f h2
        rw [hk] at hi
        have hi := hi.int_inv
        unfold arrT at hp
        split at hp
        · rename_i m el hu
          split at hp
          · rename_i sz hz
            injection hp with hp; subst hp
            refine fin0 r ha N e2 (v' := .pointer (some (ad.add (n.toNat * sz)))) ?_ q2
            simp only at hn
            simp [execOp, ho, Instr.indexAt, asIntOf, hi, run_underlying hu, q1, Instr.sureAddr, hn, run_sizeO hz]
          · cases hp
        · cases hp
      · cases e1
    · cases e
  · cases e

theorem snd_index {t : TypeId} {x y : Operand} (ho : o.op = .index t x y) (e : opK V C lim pan fr h o act K = some out) : o.wp V.P a w next Q := by
  simp only [opK, ho] at e
  obtain ⟨h1, e⟩ := use_some ha e
  obtain ⟨h2, e⟩ := use_some ha e
  split at e
  · rename_i k n hk hu
    obtain ⟨s, hs, e⟩ := asStr_some e
    obtain ⟨b, e1, e2⟩ := oE_some ha e
    have hi := slot_sound f h2
    rw [hk] at hi
    have hi := hi.int_inv
    have hx := slot_sound f h1
    rw [hs] at hx
    have hx := hx.str_inv
    unfold strAt at e1
    split at e1
    · rename_i hn
      cases hb : s[n.toNat]? with
      | none => simp [hb] at e1
      | some c =>
        simp [hb] at e1
        subst e1
        refine fin0 r ha N e2 (v' := .int .u8 c.toNat) ?_ (.int _ _)
        simp [execOp, ho, Instr.index, asIntOf, hi, hx, run_underlying hu, hn, hb]
    · cases e1
  · cases e

theorem snd_nilCheck {x : Operand} (ho : o.op = .nilCheck x) (e : opK V C lim pan fr h o act K = some out) : o.wp V.P a w next Q := by
  simp only [opK, ho] at e
  obtain ⟨h1, e⟩ := use_some ha e
  obtain ⟨v, e1, e2⟩ := oE_some ha e
  have hx := slot_sound f h1
  generalize (slot fr x).v = u at *
  generalize hy : a.eval x = y at *
  have hv : u = v := by
    unfold nonNil at e1
    split at e1 <;> first | (cases e1; done) | (injection e1)
  subst hv
  refine fin0 r ha N e2 (v' := y) ?_ hx
  cases hx with
  | pnil => simp [nonNil] at e1
  | nilFunc => simp [nonNil] at e1
  | nilIface => simp [nonNil] at e1
  | func fn _ _ _ _ =>
    cases fn <;> first | (simp [nonNil] at e1; done) | simp [execOp, ho, hy]
  | _ => simp [execOp, ho, hy]

theorem snd_unOp {op : UnOp} {t : TypeId} {x : Operand} (ho : o.op = .unOp op t x) (e : opK V C lim pan fr h o act K = some out) : o.wp V.P a w next Q := by
  simp only [opK, ho] at e
  obtain ⟨h1, e⟩ := use_some ha e
  obtain ⟨v, e1, e2⟩ := oE_some ha e
  have hx := slot_sound f h1
  generalize (slot fr x).v = u at *
  unfold unA at e1
  split at e1
  · rename_i k n
    injection e1 with e1; subst e1
    exact fin0 r ha N e2 (by simp [execOp, ho, hx.int_inv, Op.unary, Op.intArith]) (.int _ _)
  · rename_i b
    injection e1 with e1; subst e1
    exact fin0 r ha N e2 (by simp [execOp, ho, hx.bool_inv, Op.unary]) (.bool _)
  · cases e1

theorem snd_makeInterface {t : TypeId} {x : Operand} (ho : o.op = .makeInterface t x) (e : opK V C lim pan fr h o act K = some out) : o.wp V.P a w next Q := by
  simp only [opK, ho] at e
  obtain ⟨h1, e⟩ := use_some ha e
  split at e
  · cases e
  · rename_i hi
    refine fin0 r ha N e (v' := .iface t (a.eval x)) ?_ (.iface _ (slot_sound f h1))
    cases hu : V.P.underlying t with
    | none => simp [isIface, hu] at hi
    | some d =>
      simp only [execOp, ho, Instr.makeInterface, Sem.run_bind, run_underlying hu, Result.andThen_ok]
      cases d <;> first | (simp [isIface, hu] at hi; done) | simp

theorem snd_makeFunc {fn : Fn} {x y : Array Operand} (ho : o.op = .makeFunc fn x y) (e : opK V C lim pan fr h o act K = some out) : o.wp V.P a w next Q := by
  simp only [opK, ho] at e
  obtain ⟨h1, e⟩ := useL_some ha e
  obtain ⟨h2, e⟩ := useL_some ha e
  have q1 := slots_sound f h1
  have q2 := slots_sound f h2
  refine fin0 r ha N e (v' := .func fn (x.map a.eval) (y.map a.eval)) ?_ ?_
  · simp [execOp, ho, Instr.makeFunc]
  · have z1 := q1.to_agg
    have z2 := q2.to_agg
    have e1 : x.map a.eval = (x.toList.map a.eval).toArray := by apply Array.ext'; simp
    have e2 : y.map a.eval = (y.toList.map a.eval).toArray := by apply Array.ext'; simp
    rw [e1, e2]
    exact .func fn z1.1 z1.2 z2.1 z2.2

theorem snd_extract {x : Operand} {i : Nat} (ho : o.op = .extract x i) (e : opK V C lim pan fr h o act K = some out) : o.wp V.P a w next Q := by
  simp only [opK, ho] at e
  obtain ⟨h1, e⟩ := use_some ha e
  obtain ⟨v, e1, e2⟩ := oE_some ha e
  unfold tupAt at e1
  split at e1
  · rename_i vs hvs
    obtain ⟨x', q1, q2⟩ := tuple_inv (slot_sound f h1) hvs
    obtain ⟨v', z1, z2⟩ := q2.2 _ _ e1
    refine fin0 r ha N e2 (v' := v') ?_ z2
    have z3 : x'[i]? = some v' := by simpa using z1
    simp [execOp, ho, Instr.extract, q1, z3]
  · cases e1

theorem snd_panic {x : Operand} (hp : ∀ v h' v' w' ι', pan v h' = some out → Rel w0 l0 ι' h' w' → Step lim ι h w ι' h' w' → VR ι' h' v v' → Q (.panic [{ v := v', recovered := false }]) a w')
    (ho : o.op = .panic x) (e : opK V C lim pan fr h o act K = some out) : o.wp V.P a w next Q := by
  simp only [opK, ho] at e
  obtain ⟨h1, e⟩ := use_some ha e
  have hx := slot_sound f h1
  generalize (slot fr x).v = u at *
  have hu : ∃ t y, u = .iface t y ∧ pan u h = some out := by
    split at e
    · exact ⟨_, _, rfl, e⟩
    · cases e
  obtain ⟨t, y, rfl, e⟩ := hu
  obtain ⟨y', hy⟩ : ∃ y', a.eval x = .iface t y' := by
    generalize a.eval x = z at *
    cases hx
    exact ⟨_, rfl⟩
  unfold Oper.wp
  have hrun : (execOp a.eval o).run V.P w = .halt (.panic (a.eval x)) w := by
    simp [execOp, ho, Instr.panic, hy]
  rw [hrun]
  exact hp _ _ _ _ _ e r (Step.refl _ _ _ _) hx

end
end Go.Abs
namespace Go.Abs
open Go.RowKit
set_option linter.unusedSimpArgs false
set_option linter.unusedVariables false
set_option linter.unusedSectionVars false

theorem LR.set {ι h xs ys} (q : LR ι h xs ys) {v v'} (r : VR ι h v v') (i : Nat) : LR ι h (xs.set i v) (ys.set i v') := by
  refine ⟨by simp [q.1], fun j x e => ?_⟩
  by_cases hj : j = i
  · subst hj
    have hlt : j < xs.length := by have := (List.getElem?_eq_some_iff.1 e).1; simpa using this
    rw [List.getElem?_set_self hlt] at e
    injection e with e; subst e
    exact ⟨v', by rw [List.getElem?_set_self (by rw [← q.1]; exact hlt)], r⟩
  · rw [List.getElem?_set_ne (fun e => hj e.symm)] at e ⊢
    exact q.2 j x e
theorem LR.cons_inv {ι h x xs ys} (q : LR ι h (x :: xs) ys) : ∃ y ys', ys = y :: ys' ∧ VR ι h x y ∧ LR ι h xs ys' := by
  cases ys with
  | nil => have := q.1; simp at this
  | cons y ys =>
    obtain ⟨y', e1, e2⟩ := q.2 0 x rfl
    simp at e1; subst e1
    exact ⟨y, ys, rfl, e2, by have := q.1; simpa using this, fun i v e => by have := q.2 (i + 1) v (by simpa using e); simpa using this⟩
theorem LR.nil_inv {ι h ys} (q : LR ι h [] ys) : ys = [] := by cases ys with | nil => rfl | cons _ _ => have := q.1; simp at this
theorem LR.setMany {ι h} : ∀ {vs vs' xs ys} (off : Nat), LR ι h xs ys → LR ι h vs vs' → LR ι h (setMany xs off vs) (Abs.setMany ys off vs')
  | [], vs', xs, ys, off, q, p => by rw [p.nil_inv]; exact q
  | v :: vs, vs', xs, ys, off, q, p => by
    obtain ⟨y, ys', rfl, p1, p2⟩ := p.cons_inv
    exact LR.setMany (off + 1) (q.set p1 off) p2
theorem setMany_one {v : Value} : ∀ {vs xs} (off : Nat), (∀ v ∈ xs, oneCell v = true) → (∀ v ∈ vs, oneCell v = true) → ∀ v ∈ setMany xs off vs, oneCell v = true
  | [], xs, off, h1, h2 => h1
  | y :: vs, xs, off, h1, h2 => setMany_one (v := v) (off + 1) (fun x hx => by
      rcases List.mem_or_eq_of_mem_set hx with hx | hx
      · exact h1 x hx
      · subst hx; exact h2 _ (by simp)) (fun x hx => h2 x (by simp [hx]))

theorem foldl_setMany (off : Nat) : ∀ (l : List Value) (k : Nat) (arr : Array Value), ((l.zipIdx k).foldl (fun cs p => cs.setIfInBounds (off + p.2) p.1) arr).toList = setMany arr.toList (off + k) l
  | [], k, arr => rfl
  | v :: l, k, arr => by
    simp only [List.zipIdx_cons, List.foldl_cons]
    rw [foldl_setMany off l (k + 1)]
    simp [setMany, Nat.add_assoc]

theorem fill_sound {ι h} {place place' : Nat → Option (Nat × Nat)} (hp : ∀ i, place' i = place i) : ∀ {ps : List (Nat × Value)} {ps' : List (Nat × Value)} {cells cells' out}, LR ι h cells cells' → (∀ v ∈ cells, oneCell v = true) →
    ps.map (·.1) = ps'.map (·.1) → LR ι h (ps.map (·.2)) (ps'.map (·.2)) → (∀ p ∈ ps, ∀ ws, p.2 ≠ .tuple ws) → fillA place cells ps = some out →
    ∃ out', Instr.fill place' cells'.toArray ps' = some out'.toArray ∧ LR ι h out out' ∧ ∀ v ∈ out, oneCell v = true
  | [], ps', cells, cells', out, q, ho, h1, h2, h3, e => by
    have : ps' = [] := by cases ps' with | nil => rfl | cons _ _ => simp at h1
    subst this
    injection e with e; subst e
    exact ⟨cells', rfl, q, ho⟩
  | (i, v) :: ps, ps', cells, cells', out, q, ho, h1, h2, h3, e => by
    cases ps' with
    | nil => simp at h1
    | cons p' ps' =>
      obtain ⟨i', v'⟩ := p'
      simp at h1
      obtain ⟨rfl, h1⟩ := h1
      obtain ⟨y, ys, e1, e2, e3⟩ := h2.cons_inv
      simp at e1
      obtain ⟨rfl, rfl⟩ := e1
      obtain ⟨c1, c2⟩ := cells_sound e2 (h3 _ (by simp))
      simp only [fillA] at e
      cases hpl : place i with
      | none => simp [hpl] at e
      | some os =>
        obtain ⟨off, size⟩ := os
        simp only [hpl] at e
        split at e
        · rename_i hc
          obtain ⟨out', z1, z2, z3⟩ := fill_sound hp (q.setMany off c1) (setMany_one (v := undef) off ho c2) h1 e3 (fun p hp' => h3 p (by simp [hp'])) e
          refine ⟨out', ?_, z2, z3⟩
          simp only [Instr.fill, hp, hpl]
          have s1 : v'.cells.size = size := by have := c1.1; simp at this; omega
          rw [if_neg (by simp [s1]; have := q.1; omega)]
          have : (v'.cells.zipIdx.foldl (fun cs (p : Value × Nat) => cs.setIfInBounds (off + p.2) p.1) cells'.toArray) = (Abs.setMany cells' off v'.cells.toList).toArray := by
            apply Array.ext'
            rw [← Array.foldl_toList, Array.toList_zipIdx, foldl_setMany]
            simp
          rw [show (fun (cs : Array Value) (x : Value × Nat) => match x with | (c, j) => cs.setIfInBounds (off + j) c) = fun cs p => cs.setIfInBounds (off + p.2) p.1 from rfl, this]
          exact z1
        · cases e

theorem run_mapM {α β : Type} {P : Program} {w : World} (g : α → Sem β) (g' : α → β) : ∀ (l : List α), (∀ x ∈ l, (g x).run P w = .ok (g' x) w) → (l.mapM g).run P w = .ok (l.map g') w
  | [], _ => by simp
  | x :: l, h => by
    simp only [List.mapM_cons, Sem.run_bind, h x (by simp), Result.andThen_ok, run_mapM g g' l (fun y hy => h y (by simp [hy]))]
    simp

theorem range_rep (z : Array Value) (k : Nat) (hz : z.size = k) (hk : 0 < k) : ∀ n, ((List.range (n * k)).map fun i => z[i % z.size]!) = repL n z.toList
  | 0 => by simp [repL]
  | n + 1 => by
    have ih := range_rep z k hz hk n
    rw [Nat.add_mul, Nat.one_mul, List.range_add, List.map_append, ih]
    unfold repL
    rw [List.replicate_succ', List.flatten_append]
    congr 1
    simp only [List.flatten_cons, List.flatten_nil, List.append_nil, List.map_map]
    apply List.ext_getElem?
    intro i
    by_cases hi : i < k
    · have h1 : (n * k + i) % k = i := by rw [Nat.add_comm, Nat.add_mul_mod_self_right]; exact Nat.mod_eq_of_lt hi
      have h2 : i < z.size := by omega
      simp [hi, hz, h1, h2]
    · rw [List.getElem?_eq_none (by simp; omega), List.getElem?_eq_none (by simp; omega)]

theorem repL_length (n : Nat) (z : List Value) : (repL n z).length = n * z.length := by simp [repL]
theorem repL_flat {n : Nat} {z : List Value} (hz : z.all flat0 = true) : (repL n z).all flat0 = true := by
  simp only [repL, List.all_eq_true, List.mem_flatten, List.mem_replicate] at hz ⊢
  rintro x ⟨l, ⟨_, rfl⟩, hx⟩
  exact hz x hx
theorem repL_prefix {z : List Value} : ∀ {n m : Nat}, n ≤ m → ∀ (i : Nat) v, (repL n z)[i]? = some v → (repL m z)[i]? = some v := by
  intro n m hnm i v e
  obtain ⟨d, rfl⟩ := Nat.exists_eq_add_of_le hnm
  have : repL (n + d) z = repL n z ++ repL d z := by simp [repL, ← List.replicate_append_replicate]
  rw [this, List.getElem?_append_left (List.getElem?_eq_some_iff.1 e).1]
  exact e

section
variable {V : Env} {C : Hnd} {w0 : World} {l0 lim : Nat} {ι : Iota} {h : AH} {w : World} {fr : Frm} {a : Act} {o : Oper} {act : Option Bool} {K : Slot → AH → R} {pan : Value → AH → R} {out : Out} {next : Act → World → Prop} {Q : Exit → Act → World → Prop}
variable (r : Rel w0 l0 ι h w) (f : FR ι h fr a) (ha : Acts act) (N : NextOk w0 l0 lim ι h w a o K out next)
include r f ha N

theorem parts_sound (ps : Array (Nat × Operand)) (h1 : ∀ s ∈ ps.toList.map (fun p => slot fr p.2), s.g = true) :
    LR ι h ((ps.toList.map (fun p => slot fr p.2)).map (·.v)) ((ps.map fun (i, x) => (i, a.eval x)).toList.map (·.2)) := by
  have := slots_sound f (xs := ps.toList.map (·.2)) (fun s hs => h1 s (by simpa using hs))
  simp only [List.map_map] at this ⊢
  simpa [Function.comp_def] using this

theorem snd_build {t : TypeId} {ps : Array (Nat × Operand)} (ho : o.op = .build t ps) (e : opK V C lim pan fr h o act K = some out) : o.wp V.P a w next Q := by
  simp only [opK, ho] at e
  obtain ⟨h1, e⟩ := useL_some ha e
  split at e
  · rename_i z fs hz hu
    obtain ⟨hfl, e⟩ := chk_some e
    simp only [Bool.and_eq_true] at hfl
    obtain ⟨hfl, hin⟩ := hfl
    obtain ⟨hnt, e⟩ := noTups_some e
    obtain ⟨cs, e1, e2⟩ := oE_some ha e
    obtain ⟨q1, q2⟩ := LR.flat (ι := ι) (h := h) hfl
    have hL := parts_sound r f ha N ps h1
    have hlen := hL.1
    have hplaces : (fs.mapM fun fd => (do pure (fd.offset, ← sizeOf fd.type) : Sem (Nat × Nat))).run V.P w = .ok (fs.map fun fd => (fd.offset, sizeT V.P fd.type)) w := by
      have := run_mapM (P := V.P) (w := w) (fun (fd : Field) => (do pure (fd.offset, ← sizeOf fd.type) : Sem (Nat × Nat))) (fun fd => (fd.offset, sizeT V.P fd.type)) fs.toList (fun fd hfd => by
        have hi := List.all_eq_true.1 hin fd hfd
        cases hq : V.P.info? fd.type with
        | none => simp [hq] at hi
        | some i => simp [sizeOf, typeInfo, sizeT, hq])
      rw [Array.mapM_eq_mapM_toList]
      simp only [Sem.run_map, this, Result.andThen_ok]
      congr 1
      apply Array.ext'; simp
    obtain ⟨cs', z1, z2, z3⟩ := fill_sound (place' := ((fs.map fun fd => (fd.offset, sizeT V.P fd.type))[·]?)) (fun i => by simp) q1 q2 (ps' := (ps.map fun (i, x) => (i, a.eval x)).toList) (by
        rw [List.map_fst_zip]
        · simp [Function.comp_def]
        · simp) (by
        rw [List.map_snd_zip]
        · exact hL
        · simp) (fun p hp ws => hnt p.2 (List.of_mem_zip hp).2 ws) e1
    refine fin0 r ha N e2 (v' := .agg cs'.toArray) ?_ (LR.agg z2 z3)
    simp only [execOp, ho, Instr.build, Sem.run_bind, zero_cells V.P hz, Result.andThen_ok, run_underlying hu, hplaces]
    rw [show (fun x => (fs.map fun fd => (fd.offset, sizeT V.P fd.type))[x]?) = ((fs.map fun fd => (fd.offset, sizeT V.P fd.type))[·]?) from rfl] at z1 ⊢
    simp only [Array.toArray_toList] at z1
    rw [z1]
    simp
  · cases e

end
end Go.Abs
namespace Go.Abs
open Go.RowKit
set_option linter.unusedSimpArgs false
set_option linter.unusedVariables false
set_option linter.unusedSectionVars false

theorem elemT_some {P : Program} {t e : TypeId} (h : elemT P t = some e) : P.underlying t = some (.slice e) := by
  unfold elemT at h
  split at h
  · rename_i e' hu; injection h with h; subst h; exact hu
  · cases h

theorem repL_cells (z : Value) (sz : Nat) (hz : sz = z.cells.size) (hk : 0 < sz) (n : Nat) : (Array.range (n * sz)).map (fun i => z.cells[i % z.cells.size]!) = (repL n z.cells.toList).toArray := by
  apply Array.ext'
  have := range_rep z.cells sz hz.symm hk n
  simpa using this

def OpV (x : Option Int) (x' : Option Value) : Prop := (x = none ∧ x' = none) ∨ ∃ k n, x = some n ∧ x' = some (.int k n)

theorem sliceBound_ok {P : Program} {w : World} {k : IntKind} {n y : Nat} (c : BoundsCode) (h : n ≤ y) : (Instr.sliceBound (.int k (n : Int)) y c).run P w = .ok n w := by
  simp only [Instr.sliceBound, asIntOf, Sem.run_bind, Sem.run_pure, Result.andThen_ok]
  rw [if_pos (by omega)]
  simp

theorem sliceBounds_ok {P : Program} {w : World} {q : Bool} {n c l hh m : Nat} {lo hi mx : Option Int} {lo' hi' mx' : Option Value} (h1 : OpV lo lo') (h2 : OpV hi hi') (h3 : OpV mx mx') (hm : mx ≠ none → hi ≠ none)
    (b1 : lo.getD 0 = (l : Int)) (b2 : hi.getD n = (hh : Int)) (b3 : mx.getD c = (m : Int)) (b4 : l ≤ hh) (b5 : hh ≤ m) (b6 : m ≤ c) :
    (Instr.sliceBounds q n c lo' hi' mx').run P w = .ok (l, hh, m) w := by
  unfold Instr.sliceBounds
  rcases h3 with ⟨rfl, rfl⟩ | ⟨k3, n3, rfl, rfl⟩
  · simp only [Option.getD_none] at b3
    obtain rfl : c = m := by omega
    rcases h2 with ⟨rfl, rfl⟩ | ⟨k2, n2, rfl, rfl⟩
    · simp only [Option.getD_none] at b2
      obtain rfl : n = hh := by omega
      rcases h1 with ⟨rfl, rfl⟩ | ⟨k1, n1, rfl, rfl⟩
      · simp only [Option.getD_none] at b1
        obtain rfl : l = 0 := by omega
        simp
      · simp only [Option.getD_some] at b1
        subst b1
        simp [sliceBound_ok _ b4]
    · simp only [Option.getD_some] at b2
      subst b2
      rcases h1 with ⟨rfl, rfl⟩ | ⟨k1, n1, rfl, rfl⟩
      · simp only [Option.getD_none] at b1
        obtain rfl : l = 0 := by omega
        simp [sliceBound_ok _ b5]
      · simp only [Option.getD_some] at b1
        subst b1
        simp [sliceBound_ok _ b5, sliceBound_ok _ b4]
  · simp only [Option.getD_some] at b3
    subst b3
    rcases h2 with ⟨rfl, rfl⟩ | ⟨k2, n2, rfl, rfl⟩
    · exact absurd rfl (hm (by simp))
    · simp only [Option.getD_some] at b2
      subst b2
      rcases h1 with ⟨rfl, rfl⟩ | ⟨k1, n1, rfl, rfl⟩
      · simp only [Option.getD_none] at b1
        obtain rfl : l = 0 := by omega
        simp [sliceBound_ok _ b5, sliceBound_ok _ b6]
      · simp only [Option.getD_some] at b1
        subst b1
        simp [sliceBound_ok _ b5, sliceBound_ok _ b4, sliceBound_ok _ b6]

theorem slCut_sound {ι h v v' u} {lo hi mx : Option Int} {size : Nat} (q : VR ι h v v') (e : slCut h v lo hi mx size = some u) {P : Program} {w : World} {t el : TypeId}
    (hu : P.underlying t = some (.slice el)) (hs : sizeO P el = some size) {lo' hi' mx' : Option Value}
    (h1 : OpV lo lo') (h2 : OpV hi hi') (h3 : OpV mx mx') (hm : mx ≠ none → hi ≠ none) :
    ∃ u', (Instr.sliceAt t v' lo' hi' mx').run P w = .ok u' w ∧ VR ι h u u' := by
  have key : ∀ (ad : Option Addr) (n c l hh m : Nat), (Instr.sliceBounds true n c lo' hi' mx').run P w = .ok (l, hh, m) w →
      (Instr.sliceAt t (.slice ad n c) lo' hi' mx').run P w = .ok (.slice (if m = l then ad else ad.map (·.add (l * size))) (hh - l) (m - l)) w := by
    intro ad n c l hh m hb
    simp [Instr.sliceAt, Instr.slice, run_underlying hu, hb, run_sizeO hs]
  have bounds : ∀ (n c l hh m : Nat), lo.getD 0 = (l : Int) → hi.getD n = (hh : Int) → mx.getD c = (m : Int) → l ≤ hh → hh ≤ m → m ≤ c → (Instr.sliceBounds true n c lo' hi' mx').run P w = .ok (l, hh, m) w :=
    fun n c l hh m b1 b2 b3 b4 b5 b6 => sliceBounds_ok h1 h2 h3 hm b1 b2 b3 b4 b5 b6
  unfold slCut at e
  split at e
  · cases q
    split at e
    · rename_i hc
      injection e with e; subst e
      refine ⟨_, key none 0 0 0 0 0 (bounds 0 0 0 0 0 hc.1 ?_ ?_ (by omega) (by omega) (by omega)), ?_⟩
      · rcases h2 with ⟨rfl, _⟩ | ⟨_, n2, rfl, _⟩
        · rfl
        · have := hc.2.1; simpa using this
      · rcases h3 with ⟨rfl, _⟩ | ⟨_, n2, rfl, _⟩
        · rfl
        · have := hc.2.2; simpa using this
      · exact .snil
    · cases e
  · rename_i id off g n c
    simp only [Option.bind_eq_some_iff] at e
    obtain ⟨rr, e1, e⟩ := e
    have hrow := rowAt_some e1
    cases q with
    | @slice _ _ _ _ _ c' ad hid hn hc hr =>
    obtain ⟨_, hr2⟩ := hr _ _ _ hrow
    obtain ⟨ha, htop⟩ := hr2 rfl
    split at e
    · rename_i hcond
      obtain ⟨c1, c2, c3, c4, c5⟩ := hcond
      obtain ⟨l, hl⟩ := Int.eq_ofNat_of_zero_le c1
      obtain ⟨hh, hhh⟩ := Int.eq_ofNat_of_zero_le (show (0 : Int) ≤ hi.getD n by omega)
      have vr : ∀ (len' cc m : Nat), l ≤ m → m ≤ c' → len' + l ≤ m → cc + l ≤ m → VR ι h (.slice (some ⟨id, off + l * size, some g⟩) len' cc) (.slice (if m = l then some ad else (some ad).map (·.add (l * size))) len' (m - l)) := by
        intro len' cc m b1 b2 b3 b4
        by_cases hml : m = l
        · rw [if_pos hml]
          refine .slice hid (by omega) (by omega) fun g' sz cs ex => ?_
          rw [hrow] at ex
          injection ex with ex; injection ex with x1 x2 x3
          subst x1 x2
          refine ⟨Nat.le_refl _, fun _ => ⟨.inl (by omega), ?_⟩⟩
          have : l * wd rr.1 ≤ c' * wd rr.1 := Nat.mul_le_mul_right _ (by omega)
          rw [← c3]
          have h0 : (m - l) * wd rr.1 = 0 := by simp [hml]
          omega
        · rw [if_neg hml]
          refine .slice hid (by omega) (by omega) fun g' sz cs ex => ?_
          rw [hrow] at ex
          injection ex with ex; injection ex with x1 x2 x3
          subst x1 x2
          refine ⟨Nat.le_refl _, fun _ => ⟨.inr ?_, ?_⟩⟩
          · rw [ha.resolve_left (by omega)]; simp only [Option.map_some, add_at, Nat.add_assoc]
          · rw [← c3]
            have h1 : l * wd rr.1 + (m - l) * wd rr.1 = m * wd rr.1 := by rw [← Nat.add_mul]; congr 1; omega
            have h2 : m * wd rr.1 ≤ c' * wd rr.1 := Nat.mul_le_mul_right _ b2
            omega
      have e1' : (lo.getD 0).toNat = l := by rw [hl]; rfl
      have e2' : (hi.getD n - lo.getD 0).toNat = hh - l := by rw [hl, hhh]; omega
      rcases h3 with ⟨rfl, hm3⟩ | ⟨k3, m3, rfl, hm3⟩
      · simp only at e
        injection e with e; subst e
        refine ⟨_, key (some ad) n c' l hh c' (bounds n c' l hh c' hl ?_ rfl ?_ ?_ (Nat.le_refl _)), ?_⟩
        · rcases h2 with ⟨rfl, _⟩ | ⟨_, n2, rfl, _⟩ <;> simpa using hhh
        · omega
        · omega
        · rw [e1', e2']
          exact vr (hh - l) (c - l) c' (by omega) (Nat.le_refl _) (by omega) (by omega)
      · simp only at e
        split at e
        · rename_i hm4
          injection e with e; subst e
          obtain ⟨m, hmm⟩ := Int.eq_ofNat_of_zero_le (show (0 : Int) ≤ m3 by omega)
          subst hmm
          refine ⟨_, key (some ad) n c' l hh m (bounds n c' l hh m hl ?_ rfl ?_ ?_ (by omega)), ?_⟩
          · rcases h2 with ⟨rfl, _⟩ | ⟨_, n2, rfl, _⟩ <;> simpa using hhh
          · omega
          · omega
          · rw [e1', e2']
            have hcl : ((m : Int) - lo.getD 0).toNat = m - l := by rw [hl]; omega
            rw [hcl]
            exact vr (hh - l) (m - l) m (by omega) (by omega) (by omega) (by omega)
        · cases e
    · cases e
  · cases e

end Go.Abs
namespace Go.Abs
open Go.RowKit
set_option linter.unusedSimpArgs false
set_option linter.unusedVariables false
set_option linter.unusedSectionVars false

theorem bytesOf_some : ∀ {l : List Value} {bs : List UInt8}, bytesOf l = some bs → ∃ ns : List Int, l = ns.map (Value.int .u8) ∧ bs = ns.map (fun n => UInt8.ofNat n.toNat)
  | [], bs, e => by injection e with e; subst e; exact ⟨[], rfl, rfl⟩
  | x :: l, bs, e => by
    unfold bytesOf at e
    split at e
    · rename_i hh; cases hh
    · rename_i n l' hh
      injection hh with h1 h2; subst h1 h2
      simp only [Option.map_eq_some_iff] at e
      obtain ⟨bs', e1, e2⟩ := e
      obtain ⟨ns, q1, q2⟩ := bytesOf_some e1
      exact ⟨n :: ns, by simp [q1], by simp [← e2, q2]⟩
    · cases e

theorem LR.ints {ι h} : ∀ {ns : List Int} {ys : List Value}, LR ι h (ns.map (Value.int .u8)) ys → ys = ns.map (Value.int .u8)
  | [], ys, q => q.nil_inv
  | n :: ns, ys, q => by
    obtain ⟨y, ys', rfl, q1, q2⟩ := q.cons_inv
    rw [q1.int_inv, LR.ints q2]; rfl

theorem foldl_pushes : ∀ (ns : List Int) (r : ByteArray), ns.foldl (fun r n => r.push (UInt8.ofNat n.toNat)) r = ⟨r.data ++ (ns.map (fun n => UInt8.ofNat n.toNat)).toArray⟩
  | [], r => by simp
  | n :: ns, r => by
    simp only [List.foldl_cons]
    rw [foldl_pushes ns]
    simp [ByteArray.push]

theorem b2s_sound {w0 l0 ι h w} (r : Rel w0 l0 ι h w) {P : Program} {x x' : Value} {s : ByteArray} (hx : VR ι h x x') (e : b2s h x = some s) : (Conv.bytesToString x').run P w = .ok (.string s) w := by
  unfold b2s at e
  split at e
  · cases hx
    injection e with e; subst e
    simp [Conv.bytesToString]
    rfl
  · rename_i id off g n c
    simp only [Option.bind_eq_some_iff, Option.map_eq_some_iff] at e
    obtain ⟨rr, e1, cs, e2, bs, e3, e4⟩ := e
    subst e4
    have hrow := rowAt_some e1
    cases hx with
    | @slice _ _ _ _ _ c' ad hid hn hc hr =>
      obtain ⟨ns, rfl, rfl⟩ := bytesOf_some e3
      obtain ⟨_, hr2⟩ := hr _ _ _ hrow
      obtain ⟨ha, _⟩ := hr2 rfl
      have fin : ∀ a : Addr, (loadCells a n).run P w = .ok (ns.map (Value.int .u8)).toArray w → (Conv.bytesToString (.slice (some a) n c')).run P w = .ok (.string ⟨(ns.map (fun n => UInt8.ofNat n.toNat)).toArray⟩) w := by
        intro a hl
        rw [run_bytesToString w a n c' ns hl, foldl_pushes, show ByteArray.empty.data = #[] from rfl]
        simp
      rcases ha with h0 | ha
      · have hn0 : n = 0 := by omega
        subst hn0
        have hns : ns = [] := by
          have := (cut_some e2).2.2
          simpa using this
        subst hns
        exact fin _ (by simp [loadCells, loadCellsFrom])
      · subst ha
        obtain ⟨l', q1, q2, q3⟩ := r.load (P := P) hrow e2
        rw [q1.ints] at q3
        exact fin _ q3
  · cases e

theorem fillA_len {place : Nat → Option (Nat × Nat)} : ∀ {ps : List (Nat × Value)} {cells out : List Value} {n : Nat}, fillA place cells ps = some out → cells.length = n → out.length = n
  | [], cells, out, n, e, hn => by injection e with e; subst e; exact hn
  | (i, v) :: ps, cells, out, n, e, hn => by
    simp only [fillA] at e
    cases hp : place i with
    | none => simp [hp] at e
    | some os =>
      simp only [hp] at e
      split at e
      · exact fillA_len e (by rw [setMany_length]; exact hn)
      · cases e

theorem strCut_sound {P : Program} {w : World} {t : TypeId} {s u : ByteArray} {lo hi : Option Int} {lo' hi' : Option Value} (hu : P.underlying t = some .string) (h1 : OpV lo lo') (h2 : OpV hi hi')
    (e : strCut s (lo.getD 0) (hi.getD s.size) = some u) : (Instr.sliceAt t (.string s) lo' hi' none).run P w = .ok (.string u) w := by
  unfold strCut at e
  split at e
  · rename_i hc
    injection e with e; subst e
    obtain ⟨l, hl⟩ := Int.eq_ofNat_of_zero_le hc.1
    obtain ⟨hh, hhh⟩ := Int.eq_ofNat_of_zero_le (show (0 : Int) ≤ hi.getD s.size by omega)
    have hb := sliceBounds_ok (P := P) (w := w) (q := false) (n := s.size) (c := s.size) (l := l) (hh := hh) (m := s.size) h1 h2 (mx := none) (mx' := none) (.inl ⟨rfl, rfl⟩) (by simp) hl (by exact hhh) rfl (by omega) (by omega) (Nat.le_refl _)
    have e1 : (lo.getD 0).toNat = l := by rw [hl]; rfl
    have e2 : (hi.getD s.size).toNat = hh := by rw [hhh]; rfl
    simp [Instr.sliceAt, Instr.slice, run_underlying hu, hb, e1, e2]
  · cases e

theorem part_sound {ι h} {P : Program} {w : World} {t : TypeId} {cs cs' : List Value} {off : Nat} {v : Value} (q : LR ι h cs cs') (ho : ∀ v ∈ cs, oneCell v = true) (e : partA P t cs off = some v) :
    ∃ v', (part t cs'.toArray off).run P w = .ok v' w ∧ VR ι h v v' := by
  unfold partA at e
  have agg : ∀ l, cut cs off (sizeT P t) = some l → Value.agg l.toArray = v → ∃ v', (Value.agg (cs'.toArray.extract off (off + sizeT P t))) = v' ∧ VR ι h v v' := by
    intro l e1 e2
    subst e2
    obtain ⟨h1, h2, h3⟩ := cut_some e1
    have e3 : cs'.toArray.extract off (off + sizeT P t) = ((cs'.drop off).take (sizeT P t)).toArray := by
      apply Array.ext'
      simp [List.extract_eq_take_drop] 
    refine ⟨_, rfl, ?_⟩
    rw [e3]
    subst h2
    exact LR.agg ((q.drop off).take _) (fun v hv => ho v (List.mem_of_mem_drop (List.mem_of_mem_take hv)))
  split at e
  · rename_i fs hu
    simp only [Option.map_eq_some_iff] at e
    obtain ⟨l, e1, e2⟩ := e
    obtain ⟨v', z1, z2⟩ := agg l e1 e2
    refine ⟨v', ?_, z2⟩
    rw [← z1]
    simp [part, isAgg, run_underlying hu, run_sizeT hu]
  · rename_i n el hu
    simp only [Option.map_eq_some_iff] at e
    obtain ⟨l, e1, e2⟩ := e
    obtain ⟨v', z1, z2⟩ := agg l e1 e2
    refine ⟨v', ?_, z2⟩
    rw [← z1]
    simp [part, isAgg, run_underlying hu, run_sizeT hu]
  · rename_i d h1 h2 hu
    obtain ⟨v', z1, z2⟩ := q.2 _ _ e
    have hk : aggK P t = some none := by
      unfold aggK
      rw [hu]
      split
      · rename_i e'; cases e'
      · rename_i e'; injection e' with e'; subst e'; exact absurd rfl (h1 _)
      · rename_i e'; injection e' with e'; subst e'; exact absurd rfl (h2 _ _)
      · rfl
    refine ⟨v', ?_, z2⟩
    have hz : cs'.toArray[off]? = some v' := by simpa using z1
    simp [part, aggK_none hk, hz]
  · cases e

section
variable {V : Env} {C : Hnd} {w0 : World} {l0 lim : Nat} {ι : Iota} {h : AH} {w : World} {fr : Frm} {a : Act} {o : Oper} {act : Option Bool} {K : Slot → AH → R} {pan : Value → AH → R} {out : Out} {next : Act → World → Prop} {Q : Exit → Act → World → Prop}

theorem useO_sound (f : FR ι h fr a) (ha : Acts act) {x : Option Operand} {X : Option Int → R} (e : useO act fr x X = some out) : ∃ n, OpV n (x.map a.eval) ∧ X n = some out := by
  rcases useO_some ha e with ⟨rfl, e⟩ | ⟨y, k, n, rfl, e1, e2, e3⟩
  · exact ⟨none, .inl ⟨rfl, rfl⟩, e⟩
  · have := slot_sound f e1
    rw [e2] at this
    exact ⟨some n, .inr ⟨k, n, rfl, by simp [this.int_inv]⟩, e3⟩

variable (r : Rel w0 l0 ι h w) (f : FR ι h fr a) (ha : Acts act) (N : NextOk w0 l0 lim ι h w a o K out next)
include r f ha N

theorem snd_slice {t : TypeId} {x : Operand} {lo hi mx : Option Operand} (ho : o.op = .slice t x lo hi mx) (e : opK V C lim pan fr h o act K = some out) : o.wp V.P a w next Q := by
  simp only [opK, ho] at e
  obtain ⟨hmx, e⟩ := chk_some e
  have hmx : mx ≠ none → hi ≠ none := by
    cases mx <;> cases hi <;> simp at hmx ⊢
  obtain ⟨h1, e⟩ := use_some ha e
  have hx := slot_sound f h1
  obtain ⟨l, o1, e⟩ := useO_sound f ha e
  obtain ⟨m, o2, e⟩ := useO_sound f ha e
  obtain ⟨k, o3, e⟩ := useO_sound f ha e
  split at e
  · rename_i hu
    obtain ⟨s, hs, e⟩ := asStr_some e
    rw [hs] at hx
    have hx := hx.str_inv
    split at e
    · obtain ⟨u, e1, e2⟩ := oE_some ha e
      rcases o3 with ⟨_, o3⟩ | ⟨_, _, o3, _⟩
      · have := strCut_sound (w := w) hu o1 o2 e1
        exact fin0 r ha N e2 (v' := .string u) (by simp [execOp, ho, hx, o3, this]) (.str _)
      · cases o3
    · cases e
  · rename_i el hu
    split at e
    · rename_i sz hsz
      obtain ⟨u, e1, e2⟩ := oE_some ha e
      obtain ⟨u', z1, z2⟩ := slCut_sound hx e1 (w := w) hu hsz o1 o2 o3 (by
        intro hk
        rcases o3 with ⟨rfl, _⟩ | ⟨_, _, rfl, o3⟩
        · exact absurd rfl hk
        · rcases o2 with ⟨rfl, o2⟩ | ⟨_, _, rfl, _⟩
          · have h3 : mx ≠ none := by rintro rfl; simp at o3
            have h4 := hmx h3
            simp at o2
            exact absurd o2 h4
          · simp)
      exact fin0 r ha N e2 (v' := u') (by simp [execOp, ho, z1]) z2
    · cases e
  · cases e

theorem snd_field {t : TypeId} {x : Operand} {i : Nat} (ho : o.op = .field t x i) (e : opK V C lim pan fr h o act K = some out) : o.wp V.P a w next Q := by
  simp only [opK, ho] at e
  obtain ⟨h1, e⟩ := use_some ha e
  split at e
  · rename_i off ft hf
    obtain ⟨v, e1, e2⟩ := oE_some ha e
    simp only [Option.bind_eq_some_iff] at e1
    obtain ⟨cs, e3, e4⟩ := e1
    obtain ⟨cs', q1, q2, q3⟩ := aggOf_sound (slot_sound f h1) e3
    obtain ⟨v', z1, z2⟩ := part_sound (P := V.P) (w := w) q2 q3 e4
    unfold fieldOf at hf
    split at hf
    · rename_i fs hu
      simp only [Option.map_eq_some_iff] at hf
      obtain ⟨fd, hfi, hfe⟩ := hf
      injection hfe with b1 b2
      subst b1 b2
      exact fin0 r ha N (ty1_some e2) (v' := v') (by simp [execOp, ho, Instr.field, run_underlying hu, hfi, q1, asAgg, z1]) z2
    · cases hf
  · cases e

theorem snd_makeSlice {t : TypeId} {x y : Operand} (ho : o.op = .makeSlice t x y) (e : opK V C lim pan fr h o act K = some out) : o.wp V.P a w next Q := by
  simp only [opK, ho] at e
  obtain ⟨h1, e⟩ := use_some ha e
  obtain ⟨h2, e⟩ := use_some ha e
  have v1 := slot_sound f h1
  have v2 := slot_sound f h2
  split at e
  · rename_i k n k' m el hk hk' hel
    rw [hk] at v1
    rw [hk'] at v2
    have v1 := v1.int_inv
    have v2 := v2.int_inv
    split at e
    · rename_i z hz
      split at e
      · rename_i hc
        obtain ⟨c1, c2, c3, c4, c5, c6, c7⟩ := hc
        have e := mk2_some ha e
        have hu := elemT_some hel
        unfold zeroOf at hz
        simp only [Option.bind_eq_some_iff] at hz
        obtain ⟨i, hi, hz⟩ := hz
        have hb : bytesT V.P el = i.bytes := by simp [bytesT, hi]
        have hs : sizeT V.P el = i.size := by simp [sizeT, hi]
        rw [hb] at c4
        rw [hs] at c5 c6 e
        have hrun := run_make (P := V.P) w t el i z hu hi hz k k' n m c1 c2 (by omega) c3
        obtain ⟨nn, hnn⟩ := Int.eq_ofNat_of_zero_le c1
        obtain ⟨mm, hmm⟩ := Int.eq_ofNat_of_zero_le (show (0 : Int) ≤ m by omega)
        subst hnn hmm
        simp only [Int.toNat_natCast] at hrun e
        have hcells : madeCells z.cells (mm * i.size) = (repL mm z.cells.toList).toArray := repL_cells z i.size c5 c6.1 mm
        obtain ⟨ι', a1, a2, a3⟩ := r.alloc (lim := lim) (cs := repL nn z.cells.toList) (arr := madeCells z.cells (mm * i.size)) (t := el) (fr := (0, 0)) (sz := tgE V.P el i.size) (fun j v ev => by
          have h2 := repL_prefix (show nn ≤ mm by omega) j v ev
          obtain ⟨q1, q2⟩ := LR.flat (ι := ι) (h := h) (repL_flat (n := mm) c7)
          obtain ⟨v', z1, z2⟩ := q1.2 j v h2
          exact ⟨v', by rw [hcells]; simpa using z1, z2, q2 v (List.mem_of_getElem? h2)⟩) (fun j _ hj => by simp at hj) (fun q => ⟨tgE_tag _ _ c6.2 q, fun q0 => absurd q0 (by rw [tgE_wd _ _ c6.2]; omega)⟩) (w' := w.alloc (.cells (madeCells z.cells (mm * i.size)) el)) rfl rfl rfl rfl
        refine fin ha N e (v' := .slice (some ⟨w.heap.size, 0, none⟩) nn mm) ?_ (newS_sound a1 (by omega) (by omega) (by rw [size_madeCells, tgE_wd _ _ c6.2]; exact Nat.le_refl _)) a2 a3
        simp only [execOp, ho, v1, v2, Sem.run_bind, hrun, Result.andThen_ok, Sem.run_pure]
      · cases e
    · cases e
  · cases e

theorem snd_buildSlice {t : TypeId} {len : Nat} {ps : Array (Nat × Operand)} (ho : o.op = .buildSlice t len ps) (e : opK V C lim pan fr h o act K = some out) : o.wp V.P a w next Q := by
  simp only [opK, ho] at e
  obtain ⟨h1, e⟩ := useL_some ha e
  split at e
  · rename_i el hel
    split at e
    · rename_i z hz
      split at e
      · rename_i hc
        obtain ⟨c1, c2, c3, c4⟩ := hc
        obtain ⟨hnt, e⟩ := noTups_some e
        obtain ⟨cs, e1, e2⟩ := oE_some ha e
        have e2 := mk2_some ha e2
        have hu := elemT_some hel
        have hsz : sizeO V.P el = some (sizeT V.P el) := by
          unfold sizeT sizeO at *
          cases hi : V.P.info? el with
          | none => simp [hi] at c2
          | some i => simp [hi]
        obtain ⟨q1, q2⟩ := LR.flat (ι := ι) (h := h) (repL_flat (n := len) c4)
        have hL := parts_sound r f ha N ps h1
        obtain ⟨cs', z1, z2, z3⟩ := fill_sound (place' := fun i => some (i * sizeT V.P el, sizeT V.P el)) (fun i => rfl) q1 q2 (ps' := (ps.map fun (i, x) => (i, a.eval x)).toList) (by
          rw [List.map_fst_zip]
          · simp [Function.comp_def]
          · simp) (by
          rw [List.map_snd_zip]
          · exact hL
          · simp) (fun p hp ws => hnt p.2 (List.of_mem_zip hp).2 ws) e1
        obtain ⟨ι', a1, a2, a3⟩ := r.new (lim := lim) z2 z3 el (tgE V.P el (sizeT V.P el)) (tgE_tag _ _ c2.2)
        have hlen : cs.length = len * sizeT V.P el := by rw [c1]; exact fillA_len e1 (repL_length _ _)
        refine fin ha N e2 (v' := .slice (some ⟨w.heap.size, 0, none⟩) len len) ?_ (newS_sound a1 (Nat.le_refl _) (Nat.le_refl _) (by rw [hlen, tgE_wd _ _ c2.2]; exact Nat.le_refl _)) a2 a3
        have hfill : (Array.range (len * sizeT V.P el)).map (fun i => (if len * sizeT V.P el = 0 then #[] else z.cells)[i % (if len * sizeT V.P el = 0 then #[] else z.cells).size]!) = (repL len z.cells.toList).toArray := by
          split
          · rename_i h0
            have : len = 0 := by
              rcases Nat.mul_eq_zero.1 h0 with h | h
              · exact h
              · omega
            subst this
            simp [repL]
          · exact repL_cells z _ c1 c2.1 len
        have hgt : ¬ (len * sizeT V.P el > 2 ^ 24) := by omega
        by_cases h0 : len * sizeT V.P el = 0
        · have hl0 : len = 0 := by
            rcases Nat.mul_eq_zero.1 h0 with h | h
            · exact h
            · omega
          subst hl0
          have hr0 : (repL 0 z.cells.toList).toArray = #[] := by simp [repL]
          rw [hr0] at z1
          have hm0 : ∀ g : Nat → Value, (Array.range 0).map g = #[] := fun g => by simp
          simp only [execOp, ho, Instr.buildSlice, Sem.run_bind, run_underlying hu, Result.andThen_ok, run_sizeO hsz, Nat.zero_mul, gt_iff_lt, Nat.not_lt_zero, if_false, if_true, Sem.run_pure, hm0, z1]
          simp [newRow]
        · simp only [if_neg h0] at hfill
          simp only [execOp, ho, Instr.buildSlice, Sem.run_bind, run_underlying hu, Result.andThen_ok, run_sizeO hsz, if_neg hgt, if_neg h0, Sem.run_pure, zero_cells V.P hz, hfill, z1]
          simp [newRow]
      · cases e
    · cases e
  · cases e

end
end Go.Abs
namespace Go.Abs
open Go.RowKit
set_option linter.unusedSimpArgs false
set_option linter.unusedVariables false
set_option linter.unusedSectionVars false

theorem clear_cells {n : Nat} {z : Array Value} : (Builtin.zeroCells z n).toList = repL n z.toList := by
  by_cases hz : z.size = 0
  · have : z = #[] := Array.eq_empty_of_size_eq_zero hz
    subst this
    simp [Builtin.zeroCells, repL]
  · have := range_rep z z.size rfl (by omega) n
    simpa [Builtin.zeroCells] using this

section
variable {V : Env} {C : Hnd} {w0 : World} {l0 lim : Nat} {ι : Iota} {h : AH} {w : World} {fr : Frm} {a : Act} {o : Oper} {act : Option Bool} {K : Slot → AH → R} {pan : Value → AH → R} {out : Out} {next : Act → World → Prop} {Q : Exit → Act → World → Prop}
variable (r : Rel w0 l0 ι h w) (f : FR ι h fr a) (ha : Acts act) (N : NextOk w0 l0 lim ι h w a o K out next)
include r f ha N

theorem snd_convert {src dst : TypeId} {x : Operand} (ho : o.op = .convert src dst x) (e : opK V C lim pan fr h o act K = some out) : o.wp V.P a w next Q := by
  simp only [opK, ho] at e
  obtain ⟨h1, e⟩ := use_some ha e
  have hx := slot_sound f h1
  generalize (slot fr x).v = u at *
  split at e
  · rename_i k d hs
    unfold opK.asInt2 at e
    split at e
    · rename_i k' n
      have hx := hx.int_inv
      obtain ⟨v, e1, e2⟩ := oE_some ha e
      unfold convNum at e1
      split at e1
      · rename_i kd hd
        injection e1 with e1; subst e1
        exact fin0 r ha N e2 (v' := .int kd (kd.wrap n)) (by simp [execOp, ho, convert, run_underlying hs, run_underlying hd, hx, Conv.intToInt]) (.int _ _)
      · rename_i hd
        injection e1 with e1; subst e1
        exact fin0 r ha N e2 (v' := .string (Utf8.encode n)) (by simp [execOp, ho, convert, run_underlying hs, run_underlying hd, hx, Conv.intToString]) (.str _)
      · cases e1
    · cases e
  · rename_i hs hd
    obtain ⟨s, rfl, e⟩ := asStr_some e
    have hx := hx.str_inv
    exact fin0 r ha N e (v' := .string s) (by simp [execOp, ho, convert, run_underlying hs, run_underlying hd, hx]) (.str _)
  · rename_i el hs hd
    split at e
    · rename_i hel
      obtain ⟨s, e1, e2⟩ := oE_some ha e
      have hb := b2s_sound r (P := V.P) hx e1
      refine fin0 r ha N e2 (v' := .string s) ?_ (.str _)
      have hsl : ∃ b n c, a.eval x = .slice b n c := by
        generalize a.eval x = z at *
        unfold b2s at e1
        split at e1
        · cases hx; exact ⟨_, _, _, rfl⟩
        · cases hx; exact ⟨_, _, _, rfl⟩
        · cases e1
      obtain ⟨b, n, c, hsl⟩ := hsl
      rw [hsl] at hb
      simp only [execOp, ho, hsl]
      rw [show (do pure (.value (← convert src dst (.slice b n c))) : Sem Next) = (convert src dst (.slice b n c)) >>= fun v => pure (.value v) from rfl, Sem.run_bind, run_convert_bytes_string w src dst el b n c hs hel hd, hb]
      simp
    · cases e
  · rename_i el hs hd
    split at e
    · rename_i hel
      obtain ⟨s, rfl, e⟩ := asStr_some e
      have hx := hx.str_inv
      have e := mk2_some ha e
      have hrun := run_bytes_of_string (P := V.P) w src dst el s hs hd hel
      have hsz : (bytesRow s (grownCap w s.size 0 el)).size = s.size + (grownCap w s.size 0 el - s.size) := by simp [bytesRow]
      have hcap : s.size ≤ grownCap w s.size 0 el := by simp only [grownCap, Question.cut]; omega
      obtain ⟨ι', a1, a2, a3⟩ := r.alloc (lim := lim) (cs := s.data.toList.map fun b => .int .u8 b.toNat) (arr := bytesRow s (grownCap w s.size 0 el)) (t := el)
        (fr := ((bytesRow s (grownCap w s.size 0 el)).size, (bytesRow s (grownCap w s.size 0 el)).size + 1)) (sz := tgE V.P el 1) (fun j v ev => by
          refine ⟨v, ?_, ?_, ?_⟩
          · unfold bytesRow
            rw [Array.getElem?_append_left]
            · simpa using ev
            · have := (List.getElem?_eq_some_iff.1 ev).1; simpa using this
          · simp at ev; obtain ⟨b, _, rfl⟩ := ev; exact .int _ _
          · simp at ev; obtain ⟨b, _, rfl⟩ := ev; rfl) (fun j hj => by simp; omega) (fun q => ⟨tgE_tag _ _ (by decide) q, fun q0 => absurd q0 (by rw [tgE_wd _ _ (by decide)]; omega)⟩)
        (w' := w.drew.alloc (.cells (bytesRow s (grownCap w s.size 0 el)) el ((bytesRow s (grownCap w s.size 0 el)).size, (bytesRow s (grownCap w s.size 0 el)).size + 1))) rfl rfl rfl rfl
      refine fin ha N e (v' := .slice (some ⟨w.heap.size, 0, none⟩) s.size (grownCap w s.size 0 el)) ?_ (newS_sound a1 hcap hcap (by rw [hsz, tgE_wd _ _ (by decide)]; omega)) a2 a3
      simp [execOp, ho, hx, hrun]
    · cases e
  · cases e

theorem snd_typeAssert {x : Operand} {t asserted : TypeId} {ok : Bool} (ho : o.op = .typeAssert x t asserted ok) (e : opK V C lim pan fr h o act K = some out) : o.wp V.P a w next Q := by
  simp only [opK, ho] at e
  obtain ⟨h1, e9⟩ := use_some ha e
  clear e
  have hx := slot_sound f h1
  generalize (slot fr x).v = u at *
  have und : isIface V.P asserted = false → ∃ d, V.P.underlying asserted = some d ∧ ∀ ms, d ≠ .interface ms := by
    intro hi
    unfold isIface at hi
    split at hi
    · cases hi
    · cases hi
    · rename_i h1 h2
      cases hu : V.P.underlying asserted with
      | none => exact absurd hu h2
      | some d => exact ⟨d, rfl, fun ms hd => h1 ms (by rw [hu, hd])⟩
  split at e9
  · rename_i ti wv z hi hz
    obtain ⟨d, hu, hd⟩ := und hi
    generalize hy : a.eval x = y at *
    cases hx with
    | @iface _ _ wv' hw =>
    split at e9
    · rename_i ht
      subst ht
      cases ok
      · refine fin0 r ha N e9 (v := wv) (v' := wv') ?_ hw
        simp only [execOp, ho, hy, Instr.typeAssert, Sem.run_bind, run_underlying hu, Result.andThen_ok]
        cases d <;> first | exact absurd rfl (hd _) | simp
      · refine fin0 r ha N e9 (v := .tuple #[wv, .bool true]) (v' := .tuple #[wv', .bool true]) ?_ (.tuple rfl (fun i p q => ?_))
        · simp only [execOp, ho, hy, Instr.typeAssert, Sem.run_bind, run_underlying hu, Result.andThen_ok]
          cases d <;> first | exact absurd rfl (hd _) | simp
        · simp at p
          rcases i with _ | _ | i
          · exact hw
          · exact .bool _
          · omega
    · rename_i ht
      split at e9
      · rename_i hc
        obtain ⟨rfl, hfl⟩ := hc
        refine fin0 r ha N e9 (v := .tuple #[z, .bool false]) (v' := .tuple #[z, .bool false]) ?_ (.tuple rfl (fun i p q => ?_))
        · simp only [execOp, ho, hy, Instr.typeAssert, Sem.run_bind, run_underlying hu, Result.andThen_ok]
          cases d <;> first | exact absurd rfl (hd _) | simp [ht, zero_cells V.P hz]
        · simp at p
          rcases i with _ | _ | i
          · exact flat_sound hfl
          · exact .bool _
          · omega
      · cases e9
  · rename_i z hi hz
    obtain ⟨d, hu, hd⟩ := und hi
    generalize hy : a.eval x = y at *
    cases hx
    split at e9
    · rename_i hc
      obtain ⟨rfl, hfl⟩ := hc
      refine fin0 r ha N e9 (v := .tuple #[z, .bool false]) (v' := .tuple #[z, .bool false]) ?_ (.tuple rfl (fun i p q => ?_))
      · simp only [execOp, ho, hy, Instr.typeAssert, Sem.run_bind, run_underlying hu, Result.andThen_ok]
        cases d <;> first | exact absurd rfl (hd _) | simp [zero_cells V.P hz]
      · simp at p
        rcases i with _ | _ | i
        · exact flat_sound hfl
        · exact .bool _
        · omega
    · cases e9
  · cases e9

end
end Go.Abs
namespace Go.Abs
open Go.RowKit
set_option linter.unusedSimpArgs false
set_option linter.unusedVariables false
set_option linter.unusedSectionVars false

theorem LR.two {ι h x y ys} (q : LR ι h [x, y] ys) : ∃ x' y', ys = [x', y'] ∧ VR ι h x x' ∧ VR ι h y y' := by
  obtain ⟨x', l, rfl, h1, q⟩ := q.cons_inv
  obtain ⟨y', l, rfl, h2, q⟩ := q.cons_inv
  rw [q.nil_inv]
  exact ⟨x', y', rfl, h1, h2⟩
theorem LR.single {ι h x ys} (q : LR ι h [x] ys) : ∃ x', ys = [x'] ∧ VR ι h x x' := by
  obtain ⟨x', l, rfl, h1, q⟩ := q.cons_inv
  rw [q.nil_inv]
  exact ⟨x', rfl, h1⟩

/-- 'copy' -/
theorem copyA_sound {w0 l0 lim ι h w} (r : Rel w0 l0 ι h w) (hl0 : l0 ≤ lim) {P : Program} {d d' x x' : Value} {size : Nat} {n : Int} {h' : AH} {ts : Array TypeId} {t ty el : TypeId}
    (hd : VR ι h d d') (hx : VR ι h x x') (e : copyA lim h d x size = some (n, h')) (ht : ts[0]? = some t) (hu : P.underlying t = some (.slice el)) (hs : sizeO P el = some size) :
    ∃ w', (Builtin.copy_ ts ty #[d', x']).run P w = .ok (.int .i64 n) w' ∧ Rel w0 l0 ι h' w' ∧ Step lim ι h w ι h' w' := by
  unfold copyA at e
  simp only [Option.bind_eq_some_iff] at e
  obtain ⟨m, hm, e⟩ := e
  have hlen := fun w1 => lenOf_sound hx hm (P := P) (w := w1)
  split at e
  · injection e with e; injection e with e1 e2; subst e1 e2
    cases hd
    refine ⟨w, ?_, r, Step.refl _ _ _ _⟩
    have h0 := first0 hx hm size (P := P) (w := w)
    simp [Builtin.copy_, ht, run_underlying hu, hlen, Nat.min, run_sizeO hs, h0, goInt]
  · rename_i id off g len c
    simp only [Option.bind_eq_some_iff] at e
    obtain ⟨cs, hcs, h2, hst, e⟩ := e
    injection e with e; injection e with e1 e2; subst e1 e2
    obtain ⟨cs', q1, q2, q3⟩ := srcCells_sound r (P := P) hcs hx hm (Nat.min_le_left _ _)
    cases hd with
    | @slice _ _ _ _ _ c' ad hid hn hc hr =>
      by_cases h0 : len = 0
      · subst h0
        have hm0 : Nat.min m 0 = 0 := by simp [Nat.min_def]
        rw [hm0] at q3 hcs ⊢
        have hl0' : cs = [] := by
          have := srcCells_len hcs hm (Nat.zero_le _)
          simpa using this
        subst hl0'
        have hcs0 := q1.nil_inv
        subst hcs0
        unfold stN at hst
        simp only [Option.bind_eq_some_iff] at hst
        obtain ⟨rr, e1, e2⟩ := hst
        split at e2
        · injection e2 with e2
          simp only [setMany] at e2
          have hh : h2 = h := by
            rw [← e2]
            have := rowAt_some e1
            apply List.ext_getElem?
            intro j
            by_cases hj : j = id
            · subst hj; rw [List.getElem?_set_self (live_lt hid)]; exact this.symm
            · rw [List.getElem?_set_ne (fun e => hj e.symm)]
          subst hh
          refine ⟨w, ?_, r, Step.refl _ _ _ _⟩
          simp [Builtin.copy_, ht, run_underlying hu, hlen, hm0, run_sizeO hs, q3, goInt, storeCells]
        · cases e2
      · have hp : VR ι h (.pointer (some ⟨id, off, some g⟩)) (.pointer (some ad)) := by
          refine .ptr hid fun g' sz cs0 ex => ?_
          obtain ⟨l, q⟩ := hr _ _ _ ex
          exact ⟨l, fun hg => (q hg).1.resolve_left (by omega)⟩
        obtain ⟨ad', w', z1, z2, z3, z4⟩ := stN_sound r (P := P) hl0 hp hst q1
        injection z1 with z1; injection z1 with z1; subst z1
        refine ⟨w', ?_, z3, z4⟩
        simp [Builtin.copy_, ht, run_underlying hu, hlen, run_sizeO hs, q3, goInt, z2]
  · cases e

theorem clearA_sound {w0 l0 lim ι h w} (r : Rel w0 l0 ι h w) (hl0 : l0 ≤ lim) {P : Program} {d d' z : Value} {h' : AH} {ts : Array TypeId} {t ty el : TypeId}
    (hd : VR ι h d d') (e : clearA lim h d z.cells.toList = some h') (hfl : z.cells.toList.all flat0 = true) (ht : ts[0]? = some t) (hu : P.underlying t = some (.slice el)) (hz : zeroOf P el = some z) :
    ∃ w', (Builtin.clear_ ts ty #[d']).run P w = .ok (.tuple #[]) w' ∧ Rel w0 l0 ι h' w' ∧ Step lim ι h w ι h' w' := by
  unfold clearA at e
  split at e
  · injection e with e; subst e
    cases hd
    exact ⟨w, by simp [Builtin.clear_, ht, run_underlying hu], r, Step.refl _ _ _ _⟩
  · rename_i id off g n c
    split at e
    · rename_i h0
      subst h0
      injection e with e; subst e
      generalize hdd : d' = dd at *
      cases hd
      exact ⟨w, by simp [Builtin.clear_, ht, run_underlying hu], r, Step.refl _ _ _ _⟩
    · rename_i h0
      cases hd with
      | @slice _ _ _ _ _ c' ad hid hn hc hr =>
        have hp : VR ι h (.pointer (some ⟨id, off, some g⟩)) (.pointer (some ad)) := by
          refine .ptr hid fun g' sz cs0 ex => ?_
          obtain ⟨l, q⟩ := hr _ _ _ ex
          exact ⟨l, fun hg => (q hg).1.resolve_left (by omega)⟩
        obtain ⟨q1, _⟩ := LR.flat (ι := ι) (h := h) (repL_flat (n := n) hfl)
        obtain ⟨ad', w', z1, z2, z3, z4⟩ := stN_sound r (P := P) hl0 hp e q1
        injection z1 with z1; injection z1 with z1; subst z1
        refine ⟨w', ?_, z3, z4⟩
        rw [← clear_cells] at z2
        cases n with
        | zero => exact absurd rfl h0
        | succ n => simp [Builtin.clear_, ht, run_underlying hu, zero_cells P hz, z2]
  · cases e

theorem minmax_sound {ι h} {P : Program} {w : World} {b : Bool} {x y x' y' v : Value} (hx : VR ι h x x') (hy : VR ι h y y') (e : minmax b [x, y] = some v) :
    ((if b then Builtin.min2 x' y' else Builtin.max2 x' y') : Sem Value).run P w = .ok v w ∧ VR ι h v v := by
  unfold minmax at e
  split at e
  · rename_i k n k' m hh
    injection hh with h1 h2; injection h2 with h2 _; subst h1 h2
    split at e
    · rename_i hk; subst hk
      injection e with e; subst e
      rw [hx.int_inv, hy.int_inv]
      cases b
      · exact ⟨by simp [Builtin.max2], .int _ _⟩
      · exact ⟨by simp [Builtin.min2], .int _ _⟩
    · cases e
  · cases e

theorem bytesR_some : ∀ {l : List Value} {bs : List UInt8}, bytesR l = some bs → l = bs.map fun b => .int .u8 b.toNat
  | [], bs, e => by injection e with e; subst e; rfl
  | x :: l, bs, e => by
    unfold bytesR at e
    split at e
    · rename_i hh; cases hh
    · rename_i n l' hh
      injection hh with h1 h2; subst h1 h2
      split at e
      · rename_i hn
        simp only [Option.map_eq_some_iff] at e
        obtain ⟨bs', e1, e2⟩ := e
        subst e2
        rw [bytesR_some e1, List.map_cons]
        congr 2
        have : n.toNat < 256 := by omega
        simp only [UInt8.toNat_ofNat', Nat.mod_eq_of_lt this]
        omega
      · cases e
    · cases e
theorem LR.bytes {ι h} {l : List UInt8} {ys : List Value} (q : LR ι h (l.map fun b => Value.int .u8 b.toNat) ys) : ys = l.map fun b => .int .u8 b.toNat := by
  have e : (l.map fun b => Value.int .u8 b.toNat) = (l.map fun b => (b.toNat : Int)).map (Value.int .u8) := by simp
  rw [e] at q ⊢
  exact q.ints
theorem dataP_sound {ι h v v' u} (q : VR ι h v v') (e : dataP v = some u) {P : Program} {w : World} {ts : Array TypeId} {ty : TypeId} : ∃ u', (Builtin.unsafeSliceData_ ts ty #[v']).run P w = .ok u' w ∧ VR ι h u u' := by
  unfold dataP at e
  split at e
  · injection e with e; subst e
    cases q
    exact ⟨_, Lib.run_unsafeSliceData_nil w ts ty 0 0, .pnil⟩
  · split at e
    · rename_i hc
      injection e with e; subst e
      cases q with
      | slice hid hn hcc hr =>
        refine ⟨_, Lib.run_unsafeSliceData_row w ts ty _ _ _ (by omega), .ptr hid fun g' sz cs ex => ?_⟩
        obtain ⟨l, q⟩ := hr _ _ _ ex
        exact ⟨l, fun hg => (q hg).1.resolve_left (by omega)⟩
    · cases e
  · cases e
theorem freeze_other {w : World} {b n j : Nat} (hj : j ≠ b) : (w.freeze ⟨b, 0, none⟩ n).heap[j]? = w.heap[j]? := by
  unfold World.freeze
  split
  · rfl
  · simp only [Array.getElem?_modify]
    rw [if_neg (fun e => hj e.symm)]
theorem freeze_same {w : World} {b n : Nat} {arr : Array Value} {t : TypeId} {fr : Nat × Nat} (e : w.heap[b]? = some (.cells arr t fr)) : ∃ fr', (w.freeze ⟨b, 0, none⟩ n).heap[b]? = some (.cells arr t fr') := by
  unfold World.freeze
  split
  · exact ⟨fr, e⟩
  · obtain ⟨lo, hi⟩ := fr
    simp only [Array.getElem?_modify, if_true, e, Option.map_some]
    exact ⟨_, rfl⟩
theorem freeze_size {w : World} {b n : Nat} : (w.freeze ⟨b, 0, none⟩ n).heap.size = w.heap.size := by
  unfold World.freeze
  split
  · rfl
  · simp
theorem strRow_sound {w0 l0 lim ι h w} (r : Rel w0 l0 ι h w) (hl0 : l0 ≤ lim) {P : Program} {p p' : Value} {n : Int} {e : TypeId} {s : ByteArray} {h' : AH} {pt it ty : TypeId}
    (hp : VR ι h p p') (he : strRow lim h p n e = some (s, h')) (hpt : P.underlying pt = some (.pointer e)) (hc : P.cellsOf e = 1) :
    ∃ w', (Builtin.unsafeString_ #[pt, it] ty #[p', .int .i64 n]).run P w = .ok (.string s) w' ∧ Rel w0 l0 ι h' w' ∧ Step lim ι h w ι h' w' := by
  unfold strRow at he
  split at he
  · split at he
    · rename_i h0
      subst h0
      injection he with he; injection he with e1 e2; subst e1 e2
      cases hp
      exact ⟨w, Lib.run_unsafeString_none w pt it ty _, r, Step.refl _ _ _ _⟩
    · cases he
  · rename_i id off g
    split at he
    · rename_i h0
      subst h0
      injection he with he; injection he with e1 e2; subst e1 e2
      cases hp
      exact ⟨w, Lib.run_unsafeString_none w pt it ty _, r, Step.refl _ _ _ _⟩
    · rename_i h0
      simp only [Option.bind_eq_some_iff] at he
      obtain ⟨rr, h1, he⟩ := he
      obtain ⟨sz, rc⟩ := rr
      have hrow := rowAt_some h1
      simp only at hrow he
      split at he
      · rename_i hcond
        obtain ⟨k1, k2, k3, k4, k5⟩ := hcond
        simp only [Option.bind_eq_some_iff, Option.map_eq_some_iff] at he
        obtain ⟨cs, c1, l, c2, c3⟩ := he
        injection c3 with c3 c4
        subst c3 c4 k4
        obtain ⟨d1, d2, d3⟩ := cut_some c1
        have hcs := bytesR_some c2
        obtain ⟨arr, t, fr, p1, p2, p3, p4⟩ := r.row id g sz rc hrow
        obtain ⟨p5, p6, p7⟩ := p4 (by omega)
        obtain ⟨p8, p9, -⟩ := p7 (by rw [k5]; omega)
        have ht : t = e := by
          have p8' : @Eq Nat (sz / 4294967296) (t + 1) := p8
          have k5' : @Eq Nat sz (4294967296 * (e + 1) + 1) := k5
          have : @Eq Nat t e := by omega
          exact this
        subst ht
        cases hp with
        | @ptr _ _ _ ad hid hr =>
        have ha := (hr _ _ _ hrow).2 rfl
        rw [p9] at ha
        simp only [Nat.zero_add] at ha
        subst ha
        have hll : l.length = n.toNat := by rw [← d3, hcs]; simp
        have hne : l ≠ [] := by rintro rfl; simp at hll; omega
        have hcell : ∀ (j : Nat) x, l[j]? = some x → arr[j]? = some (.int .u8 x.toNat) := fun j x hx => by
          have hj : cs[j]? = some (.int .u8 x.toNat) := by rw [hcs, List.getElem?_map, hx]; rfl
          have hjl := (List.getElem?_eq_some_iff.1 hj).1
          have hj2 : rc[j]? = some (.int .u8 x.toNat) := by
            rw [d2, List.drop_zero, List.getElem?_take_of_lt (by omega)] at hj; exact hj
          obtain ⟨v', z1, z2, _⟩ := p3 j _ hj2
          rw [z2.int_inv, p9, Nat.zero_add] at z1
          exact z1
        have hle : l.length ≤ arr.size := by
          have hlast : l[l.length - 1]? = some (l[l.length - 1]'(by have := List.length_pos_iff.2 hne; omega)) := List.getElem?_eq_getElem _
          have := (Array.getElem?_eq_some_iff.1 (hcell _ _ hlast)).1
          omega
        have hn : n = (l.length : Int) := by rw [hll]; omega
        have hrun := Lib.run_unsafeString_row (P := P) w pt it ty t hpt hc (ι id).b arr.size (by simp [World.shape?, p1]) l hne hle (by omega) (fun j x hx => by
          rw [add_at, Nat.zero_add, cell_of p1]; exact hcell j x hx)
        rw [← hn] at hrun
        have hlive : live h id := .inl ⟨_, _, _, hrow⟩
        have hcm : Compat ι h ι (h.set id (.row (g + 1) 0 [])) := compat_bump hrow (by omega) (fun _ _ => rfl)
        obtain ⟨fr', hfz⟩ := freeze_same (n := l.length) p1
        refine ⟨_, hrun, ?_, ?_⟩
        · refine r.upd (live_lt hid) (by omega) (fun _ _ => rfl) (Lib.below_freeze r.below (p := ⟨(ι id).b, 0, none⟩) p5 _) (fun j hj lj => freeze_other (fun y => r.inj id j (fun q => hj q.symm) hlive lj (by omega) y.symm)) hcm
            (fun j hj lj y => r.inj id j (fun q => hj q.symm) hlive lj (by omega) y) (fun g2 sz2 cs2 e2 => ?_) (fun es e2 => by cases e2)
          injection e2 with x1 x2 x3
          subst x1 x2 x3
          exact ⟨p5, arr, t, fr', hfz, p2, fun i v ev => by simp at ev, fun q => absurd q (by simp), Tag.no (by decide)⟩
        · exact Step.upd (live_lt hid) k1 hlive (fun _ _ => rfl) hcm (by rw [freeze_size]; exact Nat.le_refl _) (.inl rfl) (fun b _ hb => freeze_other hb)
      · cases he
  · cases he

theorem argT {P : Program} {ts : Array TypeId} {i : Nat} {d : TypeDesc} (h : P.underlying (ts.getD i 0) = some d) (hi : i < ts.size) : ∃ t, ts[i]? = some t ∧ P.underlying t = some d := by
  refine ⟨ts.getD i 0, ?_, h⟩
  simp [Array.getD, hi]

section
variable {V : Env} {C : Hnd} {w0 : World} {l0 lim : Nat} {ι : Iota} {h : AH} {w : World} {fr : Frm} {a : Act} {o : Oper} {act : Option Bool} {K : Slot → AH → R} {pan : Value → AH → R} {out : Out} {next : Act → World → Prop} {Q : Exit → Act → World → Prop}
variable (r : Rel w0 l0 ι h w) (f : FR ι h fr a) (ha : Acts act) (N : NextOk w0 l0 lim ι h w a o K out next)
include r f ha N

theorem snd_builtin (hl0 : l0 ≤ lim) {c : Call} {b : Builtin} (ho : o.op = .call c) (hc : c.callee = .builtin b) (e : opK V C lim pan fr h o act K = some out) : o.wp V.P a w next Q := by
  simp only [opK, ho, hc] at e
  obtain ⟨hts, e⟩ := chk_some e
  simp only [Bool.and_eq_true, Nat.ble_eq] at hts
  obtain ⟨h1, e⟩ := useL_some ha e
  have hL := slots_sound f h1
  have hargs : (c.args.toList.map a.eval).toArray = c.args.map a.eval := by apply Array.ext'; simp
  have hlen := hL.1
  simp only [List.length_map, Array.length_toList] at hlen
  generalize hvs : List.map (fun x => x.v) (List.map (slot fr) c.args.toList) = vs at *
  have hsz : c.args.size = vs.length := by rw [← hvs]; simp
  have fin' : ∀ (s : Sem Value) (v' : Value) (w' : World), s.run V.P w = .ok v' w' → (∀ q, builtin b c.argTypes o.type q (c.args.map a.eval) = (do pure (.value (← s)))) →
      (execOp a.eval o).run V.P w = .ok (.value v') w' := by
    intro s v' w' hs hb
    simp only [execOp, ho, resolve, hc, Sem.run_bind, Sem.run_pure, Result.andThen_ok, invoke]
    rw [hb]
    simp [hs]
  split at e
  · -- len
    rename_i v
    obtain ⟨v', hl, hv⟩ := hL.single
    rw [hl] at hargs
    split at e
    · rename_i hu
      obtain ⟨s, rfl, e⟩ := asStr_some e
      have := hv.str_inv
      subst this
      refine fin0 r ha N e (v' := .int .i64 s.size) (fin' (Builtin.len_ c.argTypes o.type (c.args.map a.eval)) _ _ ?_ (fun _ => rfl)) (.int _ _)
      rw [← hargs]
      obtain ⟨t, ht, hu'⟩ := argT hu (by simp at hsz; omega)
      simp [Builtin.len_, ht, run_underlying hu', goInt]
    · rename_i el hu
      obtain ⟨n, e1, e2⟩ := oE_some ha e
      unfold lenV at e1
      split at e1
      · rename_i n' c'
        injection e1 with e1; subst e1
        refine fin0 r ha N e2 (v' := .int .i64 n') (fin' (Builtin.len_ c.argTypes o.type (c.args.map a.eval)) _ _ ?_ (fun _ => rfl)) (.int _ _)
        rw [← hargs]
        obtain ⟨t, ht, hu'⟩ := argT hu (by simp at hsz; omega)
        cases hv <;> simp [Builtin.len_, ht, run_underlying hu', goInt]
      · cases e1
    · cases e
  · -- append
    rename_i s x
    obtain ⟨s', x', hl, hs, hx⟩ := hL.two
    rw [hl] at hargs
    split at e
    · cases e
    · rename_i el d hnd hel hd
      have hu := elemT_some hel
      split at e
      · rename_i i hi
        split at e
        · rename_i z hz
          split at e
          · rename_i hcond
            obtain ⟨⟨v, h'⟩, e1, e2⟩ := heapE_some ha e
            have hdn : notInt d := fun k hk => hnd k hk
            obtain ⟨v', w', ι', z1, z2, z3, z4⟩ := app_sound r hl0 (P := V.P) (ty := o.type) hs hx e1 hu hi hz hcond.1 hcond.2.1 hcond.2.2.1 (tgE_wd V.P el hcond.2.2.2) (tgE_tag V.P el hcond.2.2.2) hd hdn
            refine fin ha N e2 (v' := v') (fin' (Builtin.append_ c.argTypes o.type (c.args.map a.eval)) _ _ ?_ (fun _ => rfl)) z2 z3 z4
            rw [← hargs]
            have hts2 : c.argTypes = #[c.argTypes.getD 0 0, c.argTypes.getD 1 0] := by
              have h2 : c.argTypes.size = 2 := by simp at hsz; omega
              apply Array.ext
              · simp [h2]
              · intro i h3 h4
                simp at h4
                rcases i with _ | _ | i
                · simp [Array.getD, h3]
                · simp [Array.getD, h3]
                · omega
            rw [hts2]
            exact z1
          · cases e
        · cases e
      · cases e
    · cases e
  · -- copy
    rename_i d x
    obtain ⟨d', x', hl, hd, hx⟩ := hL.two
    rw [hl] at hargs
    split at e
    · rename_i sz hsz2
      simp only [Option.bind_eq_some_iff] at hsz2
      obtain ⟨el, hel, hs⟩ := hsz2
      have hu := elemT_some hel
      obtain ⟨⟨n, h'⟩, e1, e2⟩ := heapE_some ha e
      obtain ⟨t, ht, hu'⟩ := argT hu (by simp at hsz; omega)
      obtain ⟨w', z1, z2, z3⟩ := copyA_sound r hl0 (P := V.P) (ty := o.type) hd hx e1 ht hu' hs
      refine fin ha N e2 (v' := .int .i64 n) (fin' (Builtin.copy_ c.argTypes o.type (c.args.map a.eval)) _ _ ?_ (fun _ => rfl)) (.int _ _) z2 z3
      rw [← hargs]
      exact z1
    · cases e
  · -- clear
    rename_i d
    obtain ⟨d', hl, hd⟩ := hL.single
    rw [hl] at hargs
    split at e
    · rename_i el hel
      have hu := elemT_some hel
      split at e
      · rename_i z hz
        split at e
        · rename_i hcond
          obtain ⟨h', e1, e2⟩ := heapE_some ha e
          obtain ⟨t, ht, hu'⟩ := argT hu (by simp at hsz; omega)
          obtain ⟨w', z1, z2, z3⟩ := clearA_sound r hl0 (P := V.P) (ty := o.type) hd e1 hcond.2 ht hu' hz
          refine fin ha N e2 (v' := .tuple #[]) (fin' (Builtin.clear_ c.argTypes o.type (c.args.map a.eval)) _ _ ?_ (fun _ => rfl)) (.tuple rfl (fun i a _ => absurd a (by simp))) z2 z3
          rw [← hargs]
          exact z1
        · cases e
      · cases e
    · cases e
  · -- unsafe.SliceData
    rename_i x
    obtain ⟨x', hl, hx⟩ := hL.single
    rw [hl] at hargs
    obtain ⟨v, e1, e2⟩ := oE_some ha e
    obtain ⟨v', z1, z2⟩ := dataP_sound (P := V.P) (w := w) (ts := c.argTypes) (ty := o.type) hx e1
    refine fin0 r ha N e2 (v' := v') (fin' (Builtin.unsafeSliceData_ c.argTypes o.type (c.args.map a.eval)) _ _ ?_ (fun _ => rfl)) z2
    rw [← hargs]
    exact z1
  · -- unsafe.String
    rename_i x y
    obtain ⟨x', y', hl, hx, hy⟩ := hL.two
    rw [hl] at hargs
    split at e
    · rename_i k el hpt
      split at e
      · rename_i hce
        obtain ⟨⟨s, h'⟩, e1, e2⟩ := heapE_some ha e
        obtain ⟨w', z1, z2, z3⟩ := strRow_sound r hl0 (P := V.P) (it := c.argTypes.getD 1 0) (ty := o.type) hx e1 hpt hce
        refine fin ha N e2 (v' := .string s) (fin' (Builtin.unsafeString_ c.argTypes o.type (c.args.map a.eval)) _ _ ?_ (fun _ => rfl)) (.str _) z2 z3
        rw [← hargs]
        have hts2 : c.argTypes = #[c.argTypes.getD 0 0, c.argTypes.getD 1 0] := by
          have h2 : c.argTypes.size = 2 := by simp at hsz; omega
          apply Array.ext
          · simp [h2]
          · intro i h3 h4
            simp at h4
            rcases i with _ | _ | i
            · simp [Array.getD, h3]
            · simp [Array.getD, h3]
            · omega
        rw [hts2, hy.int_inv]
        exact z1
      · cases e
    · cases e
  · rename_i x y
    obtain ⟨x', y', hl, hx, hy⟩ := hL.two
    rw [hl] at hargs
    obtain ⟨v, e1, e2⟩ := oE_some ha e
    obtain ⟨z1, z2⟩ := minmax_sound (P := V.P) (w := w) hx hy e1
    refine fin0 r ha N e2 (v' := v) (fin' (Builtin.min_ c.argTypes o.type (c.args.map a.eval)) _ _ ?_ (fun _ => rfl)) z2
    rw [← hargs]
    simpa [Builtin.min_] using z1
  · rename_i x y
    obtain ⟨x', y', hl, hx, hy⟩ := hL.two
    rw [hl] at hargs
    obtain ⟨v, e1, e2⟩ := oE_some ha e
    obtain ⟨z1, z2⟩ := minmax_sound (P := V.P) (w := w) hx hy e1
    refine fin0 r ha N e2 (v' := v) (fin' (Builtin.max_ c.argTypes o.type (c.args.map a.eval)) _ _ ?_ (fun _ => rfl)) z2
    rw [← hargs]
    simpa [Builtin.max_] using z1
  · cases e

end
end Go.Abs
namespace Go.Abs
open Go.RowKit
set_option linter.unusedSimpArgs false
set_option linter.unusedVariables false
set_option linter.unusedSectionVars false

theorem bytes_list {x y : ByteArray} : (x.toList = y.toList) ↔ x = y := by
  constructor
  · intro e
    rw [Go.ByteArray.toList_eq, Go.ByteArray.toList_eq] at e
    cases x; cases y
    simpa using e
  · rintro rfl; rfl

theorem bytes_beq (x y : ByteArray) : (x.toList == y.toList) = decide (x = y) := by
  by_cases h : x = y
  · subst h; simp
  · have : x.toList ≠ y.toList := fun e => h (bytes_list.1 e)
    simp [h, this]

theorem bytes_beq' (x y : ByteArray) : (x == y) = decide (x = y) := by
  have h : (x == y) = (x.data == y.data) := by
    cases x; cases y
    rfl
  rw [h]
  by_cases e : x = y
  · subst e; simp
  · have : x.data ≠ y.data := fun q => e (by cases x; cases y; simpa using q)
    simp [e, this]

theorem binA_cmp {P : Program} {w : World} {op : BinOp} {a b : Int} {q : Bool} (e : cmpA op a b = some q) : (Op.intCmp op a b).run P w = .ok (.bool q) w := by
  unfold cmpA at e
  split at e <;> first | (cases e; done) | (injection e with e; subst e; simp [Op.intCmp])

theorem binA_sh {P : Program} {w : World} {op : BinOp} {k k' : IntKind} {a b n : Int} (e : shA op k a b = some n) : (Op.shift op k a k' b).run P w = .ok (.int k n) w := by
  unfold shA at e
  split at e
  · split at e
    · cases e
    · rename_i h
      injection e with e; subst e
      simp [Op.shift, h]
  · split at e
    · cases e
    · rename_i h
      injection e with e; subst e
      simp [Op.shift, h]
  · cases e

theorem cmp_str {P : Program} {w : World} {op : BinOp} {x y : ByteArray} {q : Bool} (e : cmpS op x y = some q) : (Op.stringOp op x y).run P w = .ok (.bool q) w := by
  unfold cmpS at e
  split at e <;> first | (cases e; done) | (injection e with e; subst e; simp only [Op.stringOp, bytes_beq, Sem.run_pure])

theorem eqGuard_ok {P : Program} {w : World} {op : BinOp} {t : TypeId} {x y : Operand} {a b : Value} (h1 : ∀ u, a = .agg u → P.eqGuardType P.depth t = false) (h2 : a = .nilIface → b = .nilIface → False) :
    (eqGuard op t x y a b).run P w = .ok () w := by
  have h3 : (match a, b with
    | .nilIface, .nilIface => (do
      if (x matches .const _) || (y matches .const _) then return
      if ← Op.eqGuardIn Op.maxDepth t a b then unsupported (.noEntry "binop/eql: two nil values of an interface type with methods, neither of them the literal nil") : Sem Unit)
    | .agg _, .agg _ => (do
      if !(← program).eqGuardType (← program).depth t then return
      if ← Op.eqGuardIn Op.maxDepth t a b then unsupported (.noEntry "binop/eql: two nil values of an interface type with methods, in a part of a struct or an array"))
    | _, _ => pure ()).run P w = .ok () w := by
    split
    · exact (h2 rfl rfl).elim
    · have := h1 _ rfl
      simp [this]
    · rfl
  unfold eqGuard
  split
  · exact h3
  · exact h3
  · rfl

theorem fields_loop {P : Program} {w : World} (F : Field → Option Bool × Unit → Sem (ForInStep (Option Bool × Unit))) (g : Field → Option Bool) : ∀ (l : List Field) {b : Bool},
    l.foldr (fun f r => if f.name ≠ "_" then (g f).bind fun q => r.map fun z => q && z else r) (some true) = some b →
    (∀ f ∈ l, f.name ≠ "_" → ∀ q, g f = some q → ∀ s, (F f s).run P w = .ok (if q then .yield (none, ()) else .done (some false, ())) w) →
    (∀ f, ¬ f.name ≠ "_" → ∀ s, (F f s).run P w = .ok (.yield (none, ())) w) →
    (forIn (m := Sem) l ((none, ()) : Option Bool × Unit) F).run P w = .ok (if b then (none, ()) else (some false, ())) w
  | [], b, e, _, _ => by injection e with e; subst e; simp
  | f :: l, b, e, hb, hn => by
    simp only [List.foldr_cons] at e
    simp only [List.forIn_cons, Sem.run_bind]
    split at e
    · rename_i hp
      simp only [Option.bind_eq_some_iff, Option.map_eq_some_iff] at e
      obtain ⟨q, e1, z, e2, e3⟩ := e
      subst e3
      have ih := fields_loop F g l e2 (fun f hf => hb f (by simp [hf])) hn
      rw [hb f (by simp) hp q e1]
      cases q
      · rfl
      · exact ih
    · rename_i hp
      have ih := fields_loop F g l e (fun f hf => hb f (by simp [hf])) hn
      rw [hn f hp]
      exact ih

theorem eqA_sound {w0 l0 ι h w} (r : Rel w0 l0 ι h w) {P : Program} : ∀ (d D : Nat) (t : TypeId) {x y x' y' : Value} {q : Bool}, d ≤ D → VR ι h x x' → VR ι h y y' → eqA P d t x y = some q → (Op.equalIn D t x' y').run P w = .ok q w
  | 0, _, _, _, _, _, _, _, _, _, _, e => by cases e
  | d + 1, 0, _, _, _, _, _, _, h, _, _, _ => by omega
  | d + 1, D + 1, t, x, y, x', y', q, hd, hx, hy, e => by
    unfold eqA at e
    unfold Op.equalIn
    split at e
    · rename_i hu
      split at e
      · injection e with e; subst e; rw [hx.bool_inv, hy.bool_inv]; rw [Sem.run_bind, run_underlying hu]; rfl
      · cases e
    · rename_i hu
      split at e
      · split at e
        · rename_i hk; subst hk
          injection e with e; subst e; rw [hx.int_inv, hy.int_inv, Sem.run_bind, run_underlying hu]
          simp only [Result.andThen_ok, if_true]
          rfl
        · cases e
      · cases e
    · rename_i hu
      split at e
      · injection e with e; subst e; rw [hx.str_inv, hy.str_inv, Sem.run_bind, run_underlying hu]; exact congrArg (fun b => Result.ok b w) (bytes_beq' _ _)
      · cases e
    · rename_i hu
      split at e
      · injection e with e; subst e; cases hx; cases hy <;> (rw [Sem.run_bind, run_underlying hu]; rfl)
      · injection e with e; subst e; cases hy; cases hx <;> first | (rw [Sem.run_bind, run_underlying hu]; rfl) | (exfalso; simp_all; done)
      · cases e
    · rename_i hu
      split at e
      · injection e with e; subst e; cases hx; cases hy <;> (rw [Sem.run_bind, run_underlying hu]; rfl)
      · injection e with e; subst e; cases hy; cases hx <;> first | (rw [Sem.run_bind, run_underlying hu]; rfl) | (exfalso; simp_all; done)
      · cases e
    · rename_i hu
      split at e
      · injection e with e; subst e; cases hx; cases hy <;> (rw [Sem.run_bind, run_underlying hu]; rfl)
      · injection e with e; subst e; cases hy; cases hx <;> first | (rw [Sem.run_bind, run_underlying hu]; rfl) | (exfalso; simp_all; done)
      · cases e
    · rename_i hu
      split at e
      · injection e with e; subst e; cases hx; cases hy; rw [Sem.run_bind, run_underlying hu]; rfl
      · injection e with e; subst e; cases hx; cases hy; rw [Sem.run_bind, run_underlying hu]; rfl
      · injection e with e; subst e; cases hx; cases hy; rw [Sem.run_bind, run_underlying hu]; rfl
      · cases e
    · rename_i hu
      split at e
      · injection e with e; subst e; cases hx; cases hy; rw [Sem.run_bind, run_underlying hu]; rfl
      · injection e with e; subst e; cases hx; cases hy; rw [Sem.run_bind, run_underlying hu]; rfl
      · cases e
    · rename_i fs hu
      split at e
      · rename_i xs ys
        split at e
        · cases e
        · rename_i hst
          cases hx with
          | @agg _ xs' hxs hxv hxo =>
          cases hy with
          | @agg _ ys' hys hyv hyo =>
          have hX := LR.of_agg hxs hxv
          have hY := LR.of_agg hys hyv
          simp only [Sem.run_bind, run_underlying hu, Result.andThen_ok, run_program, hst]
          rw [if_neg (by simp), Sem.run_bind, ← Array.forIn_toList, fields_loop (P := P) (w := w) _
            (fun f => (partA P f.type xs.toList f.offset).bind fun a => (partA P f.type ys.toList f.offset).bind fun b => eqA P d f.type a b) fs.toList (b := q)]
          · cases q <;> rfl
          · rw [← e]
            congr 1
            funext f r
            split
            · cases partA P f.type xs.toList f.offset <;> simp
              cases partA P f.type ys.toList f.offset <;> simp
            · rfl
          · intro f hf hn z hz s
            simp only [Option.bind_eq_some_iff] at hz
            obtain ⟨a, ha, b, hb, hz⟩ := hz
            obtain ⟨a', p1, p2⟩ := part_sound (P := P) (w := w) hX hxo ha
            obtain ⟨b', p3, p4⟩ := part_sound (P := P) (w := w) hY hyo hb
            simp only [Array.toArray_toList] at p1 p3
            have ih := eqA_sound r d D f.type (by omega) p2 p4 hz
            rw [if_pos hn]
            simp only [Sem.run_bind, p1, p3, ih, Result.andThen_ok]
            cases z <;> rfl
          · intro f hn s
            rw [if_neg hn]
            rfl
      · cases e
    · cases e

end Go.Abs
namespace Go.Abs
open Go.RowKit
set_option linter.unusedSimpArgs false
set_option linter.unusedVariables false
set_option linter.unusedSectionVars false

theorem binOp_int_cmp {P : Program} {w : World} {op : BinOp} {t : TypeId} {k : IntKind} {a b : Int} {q : Bool} (hc : isCmp op = true) (e : cmpA op a b = some q) : (binOp op t (.int k a) (.int k b)).run P w = .ok (.bool q) w := by
  have := binA_cmp (P := P) (w := w) e
  cases op <;> first | (simp [isCmp] at hc; done) | (rw [← this]; simp [binOp])
theorem binOp_int_sh {P : Program} {w : World} {op : BinOp} {t : TypeId} {k k' : IntKind} {a b n : Int} (hc : isSh op = true) (e : shA op k a b = some n) : (binOp op t (.int k a) (.int k' b)).run P w = .ok (.int k n) w := by
  have := binA_sh (P := P) (w := w) (k' := k') e
  cases op <;> first | (simp [isSh] at hc; done) | (rw [← this]; rfl)
theorem binOp_int_ar {P : Program} {w : World} {op : BinOp} {t : TypeId} {k : IntKind} {a b n : Int} (e : arA op k a b = some n) : (binOp op t (.int k a) (.int k b)).run P w = .ok (.int k n) w := by
  unfold arA at e
  split at e
  · injection e with e; subst e; simp [binOp, Op.intArith]
  · injection e with e; subst e; simp [binOp, Op.intArith]
  · injection e with e; subst e; simp [binOp, Op.intArith]
  · injection e with e; subst e; simp only [binOp, ne_eq, not_true_eq_false, if_false, Op.intBits]; rfl
  · injection e with e; subst e; simp only [binOp, ne_eq, not_true_eq_false, if_false, Op.intBits]; rfl
  · injection e with e; subst e; simp only [binOp, ne_eq, not_true_eq_false, if_false, Op.intBits]; rfl
  · injection e with e; subst e; simp only [binOp, ne_eq, not_true_eq_false, if_false, Op.intBits]; rfl
  · split at e
    · cases e
    · rename_i h
      injection e with e; subst e; simp [binOp, Op.intDiv, h]
  · split at e
    · cases e
    · rename_i h
      injection e with e; subst e; simp [binOp, Op.intDiv, h]
  · cases e
theorem binOp_str {op : BinOp} {t : TypeId} {x y : ByteArray} : (binOp op t (.string x) (.string y)) = Op.stringOp op x y := by
  cases op <;> rfl
theorem cat_str {P : Program} {w : World} {x y s : ByteArray} (e : catA x y = some s) : (Op.stringOp .add x y).run P w = .ok (.string s) w := by
  unfold catA at e
  split at e
  · rename_i h
    injection e with e; subst e
    have : ¬ (((x.size + y.size : Nat) : Int) > IntKind.i64.max) := by
      simp [IntKind.max, IntKind.bits, IntKind.signed]; omega
    simp only [Op.stringOp, if_neg this, Sem.run_pure]
  · cases e

theorem guard_skip {P : Program} {w : World} {op : BinOp} {t : TypeId} {x y : Operand} {a b : Value} (h1 : ∀ u, a ≠ .agg u) (h2 : a ≠ .nilIface) : (eqGuard op t x y a b).run P w = .ok () w :=
  eqGuard_ok (fun u e => absurd e (h1 u)) (fun e _ => absurd e h2)

theorem eq_run {w0 l0 ι h w} (r : Rel w0 l0 ι h w) {P : Program} {op : BinOp} {t : TypeId} {ox oy : Operand} {x y x' y' : Value} {q : Bool} (hx : VR ι h x x') (hy : VR ι h y y') (hg : eqOk P t x = true) (e : eqA P 50 t x y = some q) :
    (eqGuard op t ox oy x' y').run P w = .ok () w ∧ (Op.equal t x' y').run P w = .ok q w := by
  refine ⟨eqGuard_ok (fun u hu => ?_) (fun hu hu' => ?_), eqA_sound r 50 Op.maxDepth t (by decide) hx hy e⟩
  · subst hu
    cases hx
    simpa [eqOk] using hg
  · subst hu hu'
    cases hx
    cases hy
    unfold eqA at e
    split at e <;> first | (cases e; done) | (simp at e; done) | (split at e <;> simp at * ; done)

theorem binOp_eql {t : TypeId} {x y : Value} (hi : ∀ k a k' b, x = .int k a → y = .int k' b → False) (hs : ∀ a b, x = .string a → y = .string b → False) (hf : ∀ k a, x ≠ .float k a) (hc : ∀ k a b, x ≠ .complex k a b) :
    binOp .eql t x y = (do pure (.bool (← Op.equal t x y))) ∧ binOp .neq t x y = (do pure (.bool (!(← Op.equal t x y)))) := by
  cases x with
  | int k a =>
    cases y <;> first | (exact (hi _ _ _ _ rfl rfl).elim) | exact ⟨rfl, rfl⟩
  | string a =>
    cases y <;> first | (exact (hs _ _ rfl rfl).elim) | exact ⟨rfl, rfl⟩
  | float k a => exact absurd rfl (hf _ _)
  | complex k a b => exact absurd rfl (hc _ _ _)
  | _ => exact ⟨rfl, rfl⟩

theorem VR.not_float {ι h x x'} (r : VR ι h x x') : (∀ k a, x' ≠ .float k a) ∧ (∀ k a b, x' ≠ .complex k a b) := by
  cases r <;> exact ⟨fun _ _ e => (by cases e), fun _ _ _ e => (by cases e)⟩
theorem VR.int_back {ι h x k n} (r : VR ι h x (.int k n)) : x = .int k n := by cases r; rfl
theorem VR.str_back {ι h x s} (r : VR ι h x (.string s)) : x = .string s := by cases r; rfl

theorem binK_sound {w0 l0 ι h w} (r : Rel w0 l0 ι h w) {P : Program} {op : BinOp} {t : TypeId} {ox oy : Operand} {x y x' y' : Value} {act : Option Bool} (ha : Acts act) {K : Value → R} {out : Out} (hx : VR ι h x x') (hy : VR ι h y y') (e : binK P op t x y act K = some out) :
    ∃ v, K v = some out ∧ (do eqGuard op t ox oy x' y'; binOp op t x' y' : Sem Value).run P w = .ok v w ∧ VR ι h v v := by
  unfold binK at e
  split at e
  · rename_i k a k' b
    rw [hx.int_inv, hy.int_inv]
    have hg : (eqGuard op t ox oy (.int k a) (.int k' b)).run P w = .ok () w := guard_skip (fun _ => by simp) (by simp)
    split at e
    · rename_i hc
      split at e
      · rename_i hk; subst hk
        obtain ⟨q, e1, e2⟩ := oE_some ha e
        exact ⟨_, e2, by simp only [Sem.run_bind, hg, Result.andThen_ok]; exact binOp_int_cmp hc e1, .bool _⟩
      · cases e
    · split at e
      · rename_i hc
        obtain ⟨n, e1, e2⟩ := oE_some ha e
        exact ⟨_, e2, by simp only [Sem.run_bind, hg, Result.andThen_ok]; exact binOp_int_sh hc e1, .int _ _⟩
      · split at e
        · rename_i hk; subst hk
          obtain ⟨n, e1, e2⟩ := oE_some ha e
          exact ⟨_, e2, by simp only [Sem.run_bind, hg, Result.andThen_ok]; exact binOp_int_ar e1, .int _ _⟩
        · cases e
  · rename_i a b
    rw [hx.str_inv, hy.str_inv]
    have hg : (eqGuard op t ox oy (.string a) (.string b)).run P w = .ok () w := guard_skip (fun _ => by simp) (by simp)
    split at e
    · obtain ⟨q, e1, e2⟩ := oE_some ha e
      exact ⟨_, e2, by simp only [Sem.run_bind, hg, Result.andThen_ok, binOp_str]; exact cmp_str e1, .bool _⟩
    · split at e
      · obtain ⟨s, e1, e2⟩ := oE_some ha e
        exact ⟨_, e2, by simp only [Sem.run_bind, hg, Result.andThen_ok, binOp_str]; exact cat_str e1, .str _⟩
      · cases e
  · rename_i n1 n2
    have hbi := binOp_eql (t := t) (x := x') (y := y') (fun k a k' b h1 h2 => by
        subst h1 h2
        exact n1 _ _ _ _ hx.int_back hy.int_back) (fun a b h1 h2 => by
        subst h1 h2
        exact n2 _ _ hx.str_back hy.str_back) hx.not_float.1 hx.not_float.2
    split at e
    · obtain ⟨g, e⟩ := chk_some e
      obtain ⟨q, e1, e2⟩ := oE_some ha e
      obtain ⟨h1, h2⟩ := eq_run r (op := .eql) (ox := ox) (oy := oy) hx hy g e1
      refine ⟨_, e2, ?_, .bool _⟩
      simp only [Sem.run_bind, h1, Result.andThen_ok, hbi.1, h2, Sem.run_pure]
    · obtain ⟨g, e⟩ := chk_some e
      obtain ⟨q, e1, e2⟩ := oE_some ha e
      obtain ⟨h1, h2⟩ := eq_run r (op := .neq) (ox := ox) (oy := oy) hx hy g e1
      refine ⟨_, e2, ?_, .bool _⟩
      simp only [Sem.run_bind, h1, Result.andThen_ok, hbi.2, h2, Sem.run_pure]
    · cases e

section
variable {V : Env} {C : Hnd} {w0 : World} {l0 lim : Nat} {ι : Iota} {h : AH} {w : World} {fr : Frm} {a : Act} {o : Oper} {act : Option Bool} {K : Slot → AH → R} {pan : Value → AH → R} {out : Out} {next : Act → World → Prop} {Q : Exit → Act → World → Prop}
variable (r : Rel w0 l0 ι h w) (f : FR ι h fr a) (ha : Acts act) (N : NextOk w0 l0 lim ι h w a o K out next)
include r f ha N

theorem snd_binOp {op : BinOp} {t : TypeId} {x y : Operand} {z : TypeId} (ho : o.op = .binOp op t x y z) (e : opK V C lim pan fr h o act K = some out) : o.wp V.P a w next Q := by
  simp only [opK, ho] at e
  obtain ⟨h1, e⟩ := use_some ha e
  obtain ⟨h2, e⟩ := use_some ha e
  obtain ⟨v, e1, e2, e3⟩ := binK_sound r (P := V.P) (w := w) (ox := x) (oy := y) ha (slot_sound f h1) (slot_sound f h2) e
  refine fin0 r ha N e1 (v' := v) ?_ e3
  simp only [execOp, ho]
  rw [Sem.run_bind, e2]
  rfl

end
end Go.Abs
namespace Go.Abs
open Go.RowKit
set_option linter.unusedSimpArgs false
set_option linter.unusedVariables false
set_option linter.unusedSectionVars false

/-- what is left when a function has ended -/
def RetR (w0 : World) (l0 lim : Nat) (ι : Iota) (h : AH) (w : World) (out : Out) : Ending → World → Prop
  | .returned v', w' => ∃ v h' ι', out = .ret v h' ∧ Rel w0 l0 ι' h' w' ∧ Step lim ι h w ι' h' w' ∧ VR ι' h' v v'
  | .panicked ch, w' => ∃ v v' h' ι', out = .pan v h' ∧ ch = [{ v := v', recovered := false }] ∧ Rel w0 l0 ι' h' w' ∧ Step lim ι h w ι' h' w' ∧ VR ι' h' v v'
  | .outgrown, _ => False

def Enters (P : Program) (g : Nat) : Prop := ∃ fn, P.funcs[g]? = some fn ∧ fn.body.isSome = true ∧ (fn.name == "runtime.NumGoroutine") = false

def FnSnd (P : Program) (X : Hnd) : Prop :=
  ∀ g lim vs h out, X (.fn g) lim (vs.map S) h = some out → Enters P g ∧
    ∀ w0 l0 ι w vs', l0 ≤ lim → Rel w0 l0 ι h w → LR ι h vs vs' → Calls P g vs'.toArray w (RetR w0 l0 lim ι h w out)

section
variable {V : Env} {C : Hnd} {w0 : World} {l0 lim : Nat} {ι : Iota} {h : AH} {w : World} {fr : Frm} {a : Act} {o : Oper} {act : Option Bool} {K : Slot → AH → R} {pan : Value → AH → R} {out : Out} {next : Act → World → Prop} {Q : Exit → Act → World → Prop}
variable (r : Rel w0 l0 ι h w) (f : FR ι h fr a) (ha : Acts act) (N : NextOk w0 l0 lim ι h w a o K out next)
include r f ha N

theorem snd_call (hC : FnSnd V.P C) (hl0 : l0 ≤ lim) (hp : ∀ v h' v' w' ι', pan v h' = some out → Rel w0 l0 ι' h' w' → Step lim ι h w ι' h' w' → VR ι' h' v v' → Q (.panic [{ v := v', recovered := false }]) a w')
    {c : Call} {x : Operand} (ho : o.op = .call c) (hc : c.callee = .value x) (e : opK V C lim pan fr h o act K = some out) : o.wp V.P a w next Q := by
  simp only [opK, ho, hc] at e
  obtain ⟨h1, e1⟩ := use_some ha e
  clear e
  obtain ⟨h2, e⟩ := useL_some ha e1
  clear e1
  have hx := slot_sound f h1
  have hL := slots_sound f h2
  generalize (slot fr x).v = u at *
  split at e
  · rename_i g first caps
    generalize hz : a.eval x = z at *
    cases hx with
    | @func _ _ first' _ caps' hs1 hv1 hs2 hv2 =>
    have e := callE_some ha e
    have hF := LR.of_agg hs1 hv1
    have hG := LR.of_agg hs2 hv2
    have hA := (hF.append hL).append hG
    have hargs : (first'.toList ++ c.args.toList.map a.eval ++ caps'.toList).toArray = first' ++ c.args.map a.eval ++ caps' := by
      apply Array.ext'; simp
    have call := fun out1 (h1 : C (.fn g) lim ((first.toList ++ (c.args.toList.map (slot fr)).map (·.v) ++ caps.toList).map S) h = some out1) => hC g lim _ h out1 h1
    unfold Oper.wp
    have run : Enters V.P g → (execOp a.eval o).run V.P w = .ok (.enter g (first' ++ c.args.map a.eval ++ caps')) w := by
      rintro ⟨fn, hf, hb, hn⟩
      have hb' : ¬ fn.body = none := by intro h; simp [h] at hb
      have hn' : ¬ fn.name = "runtime.NumGoroutine" := by simpa using hn
      simp [execOp, ho, resolve, hc, hz, Deferred.ofValue, invoke, callFunc, hf, hn', hb']
    rcases onRet_some e with ⟨v, h', e1, e2⟩ | ⟨v, h', e1, e2⟩
    · obtain ⟨hE, hcall⟩ := call _ e1
      rw [run hE, Oper.upon_enter, ← hargs]
      refine (hcall w0 l0 ι w _ hl0 r hA).mono fun en w' hR => ?_
      cases en with
      | returned v' =>
        obtain ⟨v1, h1, ι', q1, q2, q3, q4⟩ := hR
        injection q1 with z1 z2; subst z1 z2
        obtain ⟨g1, g2⟩ := mkS_g (v := v) ha
        exact N _ _ _ _ _ (ty_some e2) q2 q3 g1 (by rw [g2]; exact q4)
      | panicked ch => obtain ⟨_, _, _, _, q1, _⟩ := hR; cases q1
      | outgrown => exact hR.elim
    · obtain ⟨hE, hcall⟩ := call _ e1
      rw [run hE, Oper.upon_enter, ← hargs]
      refine (hcall w0 l0 ι w _ hl0 r hA).mono fun en w' hR => ?_
      cases en with
      | returned v' => obtain ⟨_, _, _, q1, _⟩ := hR; cases q1
      | panicked ch =>
        obtain ⟨v1, v', h1, ι', q1, rfl, q2, q3, q4⟩ := hR
        injection q1 with z1 z2; subst z1 z2
        exact hp _ _ _ _ _ e2 q2 q3 q4
      | outgrown => exact hR.elim
  · cases e

/-- every operation -/
theorem op_sound (hC : FnSnd V.P C) (hl0 : l0 ≤ lim) (hp : ∀ v h' v' w' ι', pan v h' = some out → Rel w0 l0 ι' h' w' → Step lim ι h w ι' h' w' → VR ι' h' v v' → Q (.panic [{ v := v', recovered := false }]) a w')
    (e : opK V C lim pan fr h o act K = some out) : o.wp V.P a w next Q := by
  cases ho : o.op with
  | move x => exact snd_move r f ha N (.inl ho) e
  | assign x => exact snd_move r f ha N (.inr ho) e
  | pick c x y => exact snd_pick r f ha N ho e
  | alloc t => exact snd_alloc r f ha N ho e
  | box t x => exact snd_box r f ha N ho e
  | build t ps => exact snd_build r f ha N ho e
  | buildSlice t n ps => exact snd_buildSlice r f ha N ho e
  | load t x => exact snd_load r f ha N ho e
  | store t x y => exact snd_store r f ha N hl0 ho e
  | nilCheck x => exact snd_nilCheck r f ha N ho e
  | binOp op t x y z => exact snd_binOp r f ha N ho e
  | unOp op t x => exact snd_unOp r f ha N ho e
  | convert s d x => exact snd_convert r f ha N ho e
  | makeInterface t x => exact snd_makeInterface r f ha N ho e
  | makeFunc fn x y => exact snd_makeFunc r f ha N ho e
  | makeSlice t x y => exact snd_makeSlice r f ha N ho e
  | slice t x lo hi mx => exact snd_slice r f ha N ho e
  | fieldAddr t x i => exact snd_fieldAddr r f ha N ho e
  | field t x i => exact snd_field r f ha N ho e
  | indexAddr t x i => exact snd_indexAddr r f ha N ho e
  | index t x i => exact snd_index r f ha N ho e
  | extract x i => exact snd_extract r f ha N ho e
  | typeAssert x t t2 ok => exact snd_typeAssert r f ha N ho e
  | panic x => exact snd_panic r f ha N hp ho e
  | call c =>
    cases hc : c.callee with
    | builtin b => exact snd_builtin r f ha N hl0 ho hc e
    | value x => exact snd_call r f ha N hC hl0 hp ho hc e
    | invoke x n => simp [opK, ho, hc] at e
  | _ => simp [opK, ho] at e

end
end Go.Abs
