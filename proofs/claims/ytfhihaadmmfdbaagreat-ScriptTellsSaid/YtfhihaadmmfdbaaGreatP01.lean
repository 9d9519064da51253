/- Raw and Check tell of one event as the document says, whatever the event (pomanderlaw19.ScriptTells). No conditions. -/
import GoSem.Step
import Derived.Control
import Derived.Calls
import Derived.Laws.Sem
import Derived.Laws.Entries
import Derived.Laws.Strings
import Derived.Laws.Slices
import Derived.Laws.StructEq
import Derived.Laws.Cells
import Derived.Laws.Build
import Derived.ChangeKeysEq
import Derived.Laws.BytesString
import Derived.Laws.Tables
import Derived.Great.BuildSlice
import Derived.Laws.World
import Derived.Laws.IdiomCopy
import Derived.Laws.AppendOwn
import Derived.Laws.MakeOwn
namespace Go.Ab
inductive AV where
 | unk
 | bool (b : Bool)
 | int (k : IntKind) (n : Int)
 | str (s : List UInt8)
 | nilptr
 | ptr (id off : Nat)
 | fptr (cells : List AV)
 | box (cells : List AV)
 | lptr (slot off : Nat)
 | nilsl
 | sl (own : Bool) (es : Nat) (rows : List (List AV))
 | rsl (id es off len : Nat)
 | csl (id es off len : Nat)
 | aptr (id row off : Nat)
 | nilmap
 | map (id : Nat)
 | nilfn
 | fn (f : Fn) (first cap : List AV)
 | yld (id : Nat)
 | niliface
 | iface (t : TypeId) (v : AV)
 | agg (cells : List AV)
 | tup (vs : List AV)
 deriving Inhabited
def AV.undef : AV := .tup []
def AV.strip0 : AV → AV
 | .sl _ es rows => .sl false es rows
 | .box _ => .unk
 | .lptr _ _ => .unk
 | .agg _ => .unk
 | .tup _ => .unk
 | v => v
def AV.strip1 : AV → AV
 | .agg cs => .agg (cs.map AV.strip0)
 | v => v.strip0
def AV.strip : AV → AV
 | .tup vs => .tup (vs.map AV.strip1)
 | v => v.strip1
def AV.clr : AV → AV
 | .box _ => .unk
 | .lptr _ _ => .unk
 | v => v
def AV.cells : AV → List AV
 | .agg cs => cs
 | v => [v]
def AV.ofScalar : Value → AV
 | .bool b => .bool b
 | .int k n => .int k n
 | .string s => .str s.data.toList
 | .pointer none => .nilptr
 | .slice none 0 0 => .nilsl
 | .map none => .nilmap
 | .nilFunc => .nilfn
 | .nilIface => .niliface
 | _ => .unk
def flatB : Value → Bool
 | .agg _ | .tuple _ => false
 | _ => true
def AV.ofConst : Value → AV
 | .agg cs => if cs.toList.all flatB then .agg (cs.toList.map AV.ofScalar) else .unk
 | v => AV.ofScalar v
mutual
def AV.same : AV → AV → Bool
 | .unk, .unk => true
 | .bool a, .bool b => a == b
 | .int k a, .int j b => decide (k = j) && decide (a = b)
 | .str a, .str b => a == b
 | .nilptr, .nilptr => true
 | .ptr a b, .ptr c d => a == c && b == d
 | .fptr a, .fptr b => sameL a b
 | .nilsl, .nilsl => true
 | .sl o e r, .sl o' e' r' => o == o' && e == e' && sameR r r'
 | .rsl a b c d, .rsl a' b' c' d' => a == a' && b == b' && c == c' && d == d'
 | .csl a b c d, .csl a' b' c' d' => a == a' && b == b' && c == c' && d == d'
 | .aptr a b c, .aptr a' b' c' => a == a' && b == b' && c == c'
 | .nilmap, .nilmap => true
 | .map a, .map b => a == b
 | .nilfn, .nilfn => true
 | .fn (.func f) a b, .fn (.func g) c d => f == g && sameL a c && sameL b d
 | .yld a, .yld b => a == b
 | .box a, .box b => sameL a b
 | .lptr a b, .lptr c d => a == c && b == d
 | .niliface, .niliface => true
 | .iface t v, .iface u w => t == u && AV.same v w
 | .agg a, .agg b => sameL a b
 | .tup a, .tup b => sameL a b
 | _, _ => false
def sameL : List AV → List AV → Bool
 | [], [] => true
 | a :: as, b :: bs => AV.same a b && sameL as bs
 | _, _ => false
def sameR : List (List AV) → List (List AV) → Bool
 | [], [] => true
 | a :: as, b :: bs => sameL a b && sameR as bs
 | _, _ => false
end
structure ALoop where
 state : LoopState
 pending : Option Code
 fn : FuncId
 env : List AV
 params : List Tmp
 assign : Code
 body : Code
 defers : Nat
inductive Obj where
 | cells (cs : List AV)
 | arr (es : Nat) (rows : List (List AV))
 | map (es : List (AV × AV))
 | loop (l : ALoop)
 | deferred
 | siter (s : ByteArray) (pos : Nat)
 deriving Inhabited
structure Sto where
 heap : List (Nat × Obj)
 next : Nat
 deriving Inhabited
def Sto.look (id : Nat) : List (Nat × Obj) → Option Obj
 | [] => none
 | (i, o) :: r => if i = id then some o else Sto.look id r
def Sto.get (S : Sto) (id : Nat) : Option Obj := Sto.look id S.heap
def Sto.putIn (id : Nat) (o : Obj) : List (Nat × Obj) → List (Nat × Obj)
 | [] => []
 | (i, o') :: r => if i = id then (i, o) :: r else (i, o') :: Sto.putIn id o r
def Sto.put (S : Sto) (id : Nat) (o : Obj) : Sto := { S with heap := Sto.putIn id o S.heap }
def Sto.new (S : Sto) (o : Obj) : Sto := { heap := (S.next, o) :: S.heap, next := S.next + 1 }
def Sto.dropIn (id : Nat) : List (Nat × Obj) → List (Nat × Obj)
 | [] => []
 | (i, o) :: r => if i = id then r else (i, o) :: Sto.dropIn id r
def Sto.drop (S : Sto) (id : Nat) : Sto := { S with heap := Sto.dropIn id S.heap }
structure APan where
 v : AV
 recovered : Bool
inductive AMode where
 | none
 | unk
 | returning
 | panicking (chain : List APan)
inductive ATarget where
 | fn (f : Fn) (cap : List AV)
 | coll (id : Nat)
structure ADef where
 target : ATarget
 args : List AV
inductive DT where
 | leaf (l : List Nat)
 | node (i j : Nat) (a b : DT)
structure Pol where
 take : FuncId → Nat → Bool := fun _ _ => false
 loc : FuncId → Nat → Bool := fun _ _ => false
 keep : FuncId → Option (List Bool) := fun _ => none
 frees : FuncId → List Nat := fun _ => []
 orders : FuncId → Nat → List (List Nat) := fun _ _ => []
 arr : FuncId → Nat → Nat := fun _ _ => 0
 free : FuncId → Bool := fun _ => false
 need : FuncId → Nat → List Nat := fun _ _ => []
 wr : FuncId → Nat → List Nat := fun _ _ => []
 out : FuncId → Nat → Option (List Bool) := fun _ _ => none
 frz : FuncId → Bool := fun _ => false
 fzr : FuncId → Nat → List (Nat × Nat) := fun _ _ => []
 needF : FuncId → Nat → List Nat × List Nat := fun _ _ => ([], [])
 clone : FuncId → Bool := fun _ => false
 fan : FuncId → Nat → Option DT := fun _ _ => none
 own : FuncId → Nat → List Nat := fun _ _ => []
 pro : FuncId → Nat → List Nat := fun _ _ => []
 hp : FuncId → Nat → List Nat := fun _ _ => []
structure St where
 env : List AV
 defs : List ADef
 par : AMode
 S : Sto
inductive AExit where
 | normal
 | exit (id : Nat)
 | goto (l : Nat)
 | ret
 | pan (chain : List APan)
inductive AEnd where
 | ret (v : AV)
 | pan (chain : List APan)
inductive Tgt where
 | func (f : FuncId)
 | yield (id : Nat)
section reads
variable (env : List AV)
def opd : Operand → AV
 | .tmp t => (env.getD t .undef).strip
 | .const v => AV.ofConst v
 | .global _ => .unk
 | .func f => .fn (.func f) [] []
def opt : Operand → AV
 | .tmp t => (env.getD t .undef).clr
 | x => opd env x
def adr : Operand → AV
 | .tmp t => match env.getD t .undef with
  | .box _ => .lptr t 0
  | v => v
 | _ => .unk
end reads
def stripAt (env : List AV) : List Tmp → List AV
 | [] => env
 | t :: ts => stripAt (env.set t (env.getD t .undef).strip) ts
def tmpsOf (xs : List Operand) : List Tmp := xs.filterMap fun | .tmp t => some t | _ => none
def consumed (pol : Pol) (f : FuncId) (o : Oper) : List Tmp :=
 match o.op with
 | .move x => match o.dst with
  | some d => if pol.take f d then tmpsOf [x] else []
  | none => []
 | .assign x | .box _ x | .store _ _ x | .slice _ x _ _ _ | .convert _ _ x => tmpsOf [x]
 | .build _ ps => match ps.toList with
  | [(_, x)] => tmpsOf [x]
  | _ => []
 | .call { callee := .builtin .append, args, .. } => tmpsOf (args.toList.take 1)
 | .call { callee := .value _, args, .. } => tmpsOf args.toList
 | _ => []
section P
variable (P : Program)
def okTop : AV → Bool
 | .unk | .tup _ | .box _ | .lptr _ _ => false
 | _ => true
def zeroA (t : TypeId) : Option AV := match P.info? t with
 | some i => match i.zero with
  | some z => if okTop (AV.ofConst z) then some (AV.ofConst z) else none
  | none => none
 | none => none
def valAt (t : TypeId) (cells : List AV) : Option AV :=
 match P.underlying t with
 | none => none
 | some (.struct _) | some (.array _ _) => if P.cellsOf t ≤ cells.length then some (.agg (cells.take (P.cellsOf t))) else none
 | some _ => cells.head?
def eqFields (eq : TypeId → AV → AV → Option Bool) : List Field → List AV → List AV → Option Bool
 | [], _, _ => some true
 | f :: fs, xs, ys =>
  if f.name = "_" then eqFields eq fs xs ys else
  match valAt P f.type (xs.drop f.offset), valAt P f.type (ys.drop f.offset) with
  | some x, some y => match eq f.type x y with
   | some true => eqFields eq fs xs ys
   | r => r
  | _, _ => none
def eqItemsA (eq : TypeId → AV → AV → Option Bool) (e : TypeId) (c : Nat) (xs ys : List AV) : List Nat → Option Bool
 | [] => some true
 | i :: is => match valAt P e (xs.drop (i * c)), valAt P e (ys.drop (i * c)) with
  | some x, some y => match eq e x y with
   | some true => eqItemsA eq e c xs ys is
   | r => r
  | _, _ => none
def eqA : Nat → TypeId → AV → AV → Option Bool
 | 0, _, _, _ => none
 | d + 1, t, x, y =>
  match P.underlying t, x, y with
  | some .bool, .bool a, .bool b => some (a == b)
  | some (.int _), .int k a, .int k' b => if k = k' then some (a == b) else none
  | some .string, .str a, .str b => some (a == b)
  | some (.pointer _), .nilptr, .nilptr => some true
  | some (.pointer _), .nilptr, .ptr _ _ | some (.pointer _), .ptr _ _, .nilptr => some false
  | some (.interface _), .niliface, .niliface => some true
  | some (.interface _), .niliface, .iface _ _ | some (.interface _), .iface _ _, .niliface => some false
  | some (.slice _), .nilsl, .nilsl => some true
  | some (.slice _), .nilsl, .sl _ _ _ | some (.slice _), .sl _ _ _, .nilsl => some false
  | some (.slice _), .nilsl, .rsl _ _ _ _ | some (.slice _), .rsl _ _ _ _, .nilsl => some false
  | some (.map _ _), .nilmap, .nilmap => some true
  | some (.map _ _), .nilmap, .map _ | some (.map _ _), .map _, .nilmap => some false
  | some (.func _ _ _), .nilfn, .nilfn => some true
  | some (.func _ _ _), .nilfn, .fn _ _ _ | some (.func _ _ _), .fn _ _ _, .nilfn => some false
  | some (.func _ _ _), .nilfn, .yld _ | some (.func _ _ _), .yld _, .nilfn => some false
  | some (.struct fs), .agg xs, .agg ys => if P.stoodInHeld t then none else eqFields P (eqA d) fs.toList xs ys
  | some (.array n e), .agg xs, .agg ys => if (P.info? e).isSome then eqItemsA P (eqA d) e (P.cellsOf e) xs ys (List.range n) else none
  | _, _, _ => none
def cmpInt (op : BinOp) (a b : Int) : Option AV :=
 match op with
 | .eql => some (.bool (a == b))
 | .neq => some (.bool (a != b))
 | .lss => some (.bool (a < b))
 | .leq => some (.bool (a ≤ b))
 | .gtr => some (.bool (a > b))
 | .geq => some (.bool (a ≥ b))
 | _ => none
def bitsA (op : BinOp) (k : IntKind) (x y : Int) : Option AV :=
 let a := BitVec.ofInt k.bits x
 let b := BitVec.ofInt k.bits y
 match op with
 | .and => some (.int k (k.wrap (a &&& b).toNat))
 | .or => some (.int k (k.wrap (a ||| b).toNat))
 | .xor => some (.int k (k.wrap (a ^^^ b).toNat))
 | .andNot => some (.int k (k.wrap (a &&& ~~~b).toNat))
 | _ => none
def strBin (op : BinOp) (x y : List UInt8) : Option AV :=
 match op with
 | .add => if x.length + y.length < 4611686018427387904 then some (.str (x ++ y)) else none
 | .eql => some (.bool (x == y))
 | .neq => some (.bool !(x == y))
 | .lss => some (.bool (Op.bytesLess x y))
 | .leq => some (.bool (Op.bytesLess x y || x == y))
 | .gtr => some (.bool !(Op.bytesLess x y || x == y))
 | .geq => some (.bool !(Op.bytesLess x y))
 | _ => none
def intBin (op : BinOp) (k : IntKind) (a b : Int) : Option AV :=
 match op with
 | .add => some (.int k (k.wrap (a + b)))
 | .sub => some (.int k (k.wrap (a - b)))
 | .mul => some (.int k (k.wrap (a * b)))
 | .quo => if b = 0 then none else some (.int k (k.wrap (a.tdiv b)))
 | .rem => if b = 0 then none else some (.int k (a.tmod b))
 | .and | .or | .xor | .andNot => bitsA op k a b
 | .shl | .shr => none
 | _ => cmpInt op a b
def binA (op : BinOp) (t : TypeId) (lit : Bool) (x y : AV) : Option AV :=
 match op, x, y with
 | .shl, .int k a, .int _ b => if b < 0 then none else some (.int k (k.wrap (a * 2 ^ (min b.toNat k.bits))))
 | .shr, .int k a, .int _ b => if b < 0 then none else some (.int k (a.fdiv (2 ^ (min b.toNat k.bits))))
 | op, .int k a, .int k' b => if k = k' then intBin op k a b else none
 | op, .str a, .str b => strBin op a b
 | .eql, .niliface, .niliface => if lit then (eqA P Op.maxDepth t .niliface .niliface).map .bool else none
 | .neq, .niliface, .niliface => if lit then (eqA P Op.maxDepth t .niliface .niliface).map fun b => .bool !b else none
 | .eql, .agg xs, .agg ys => if P.eqGuardType P.depth t then none else (eqA P Op.maxDepth t (.agg xs) (.agg ys)).map .bool
 | .neq, .agg xs, .agg ys => if P.eqGuardType P.depth t then none else (eqA P Op.maxDepth t (.agg xs) (.agg ys)).map fun b => .bool !b
 | .eql, x, y => (eqA P Op.maxDepth t x y).map .bool
 | .neq, x, y => (eqA P Op.maxDepth t x y).map fun b => .bool !b
 | _, _, _ => none
def unA (op : UnOp) (x : AV) : Option AV :=
 match op, x with
 | .neg, .int k n => some (.int k (k.wrap (0 - n)))
 | .xor, .int k n => bitsA .xor k (if k.signed then -1 else k.max) n
 | .not, .bool b => some (.bool !b)
 | _, _ => none
def byteOf? : List AV → Option UInt8
 | [.int .u8 n] => some (UInt8.ofNat n.toNat)
 | _ => none
def bytesOf? : List (List AV) → Option (List UInt8)
 | [] => some []
 | r :: rs => match byteOf? r, bytesOf? rs with
  | some b, some bs => some (b :: bs)
  | _, _ => none
def byteRow (b : UInt8) : List AV := [.int .u8 b.toNat]
def convA (src dst : TypeId) (x : AV) : Option AV :=
 match P.underlying src, P.underlying dst, x with
 | some _, some (.int k), .int _ n => some (.int k (k.wrap n))
 | some _, some .string, .str s => some (.str s)
 | some _, some .string, .int _ n => some (.str (Utf8.encode n).data.toList)
 | some (.slice e), some .string, .nilsl => match P.underlying e with
  | some (.int .u8) => some (.str [])
  | _ => none
 | some (.slice _), some (.slice e), .sl true es (r :: rows) => match src == dst, P.underlying e with
  | true, some (.int .u8) => some (.sl true es (r :: rows))
  | _, _ => none
 | some (.slice e), some .string, .sl _ 1 rows => match P.underlying e with
  | some (.int .u8) => (bytesOf? rows).map .str
  | _ => none
 | some .string, some (.slice e), .str s => match P.underlying e with
  | some (.int .u8) => if s.length < 4611686018427387904 then some (.sl true 1 (s.map byteRow)) else none
  | _ => none
 | _, _, _ => none
def fieldOf (s : TypeId) (i : Nat) : Option Field :=
 match P.underlying s with
 | some (.struct fs) => fs[i]?
 | _ => none
def addOff (a : AV) (n : Nat) : Option AV :=
 match a with
 | .ptr id off => some (.ptr id (off + n))
 | .lptr s off => some (.lptr s (off + n))
 | .fptr cells => if n < cells.length then some (.fptr (cells.drop n)) else none
 | .aptr id r off => some (.aptr id r (off + n))
 | _ => none
def fieldAddrA (s : TypeId) (a : AV) (i : Nat) : Option AV :=
 match fieldOf P s i with
 | some f => if P.cellsOf f.type = 0 then none else addOff a f.offset
 | none => none
def indexAddrA (t : TypeId) (x : AV) (i : AV) : Option AV :=
 match i with
 | .int _ i =>
  match P.underlying t, x with
  | some (.slice e), .sl _ es rows =>
   if 0 ≤ i ∧ i < rows.length ∧ es = P.cellsOf e then (rows[i.toNat]?).map .fptr else none
  | some (.slice e), .rsl id es off len =>
   if 0 ≤ i ∧ i < len ∧ es = P.cellsOf e ∧ 0 < es then some (.aptr id (off + i.toNat) 0) else none
  | some (.slice e), .csl id es off len =>
   if 0 ≤ i ∧ i < len ∧ es = P.cellsOf e ∧ 0 < es then some (.aptr id (off + i.toNat) 0) else none
  | some (.array len e), x =>
   if 0 ≤ i ∧ i < len ∧ 0 < P.cellsOf e then addOff x (i.toNat * P.cellsOf e) else none
  | _, _ => none
 | _ => none
def indexA (t : TypeId) (x i : AV) : Option AV :=
 match i with
 | .int _ i =>
  match P.underlying t, x with
  | some .string, .str s => if 0 ≤ i then (s[i.toNat]?).map fun b => .int .u8 b.toNat else none
  | some (.array len e), .agg cs =>
   if 0 ≤ i ∧ i < len then valAt P e (cs.drop (i.toNat * P.cellsOf e)) else none
  | _, _ => none
 | _ => none
def fieldA (t : TypeId) (x : AV) (i : Nat) : Option AV :=
 match fieldOf P t i, x with
 | some f, .agg cs => valAt P f.type (cs.drop f.offset)
 | _, _ => none
def boundA (dflt : Nat) : Option AV → Option Nat
 | none => some dflt
 | some (.int _ n) => if 0 ≤ n then some n.toNat else none
 | some _ => none
def sliceA (t : TypeId) (x : AV) (lo hi mx : Option AV) : Option AV :=
 match P.underlying t, x with
 | some .string, .str s =>
  match boundA 0 lo, boundA s.length hi, mx with
  | some l, some h, none => if l ≤ h ∧ h ≤ s.length then some (.str ((s.take h).drop l)) else none
  | _, _, _ => none
 | some (.slice e), .sl own es rows =>
  match boundA 0 lo, boundA rows.length hi with
  | some l, some h =>
   if l ≤ h ∧ h ≤ rows.length ∧ es = P.cellsOf e then
    match mx with
    | none => some (.sl (own && (h == rows.length)) es ((rows.take h).drop l))
    | some m => match boundA 0 (some m), hi with
     | some m, some _ => if m = h then some (.sl (own || h == l) es ((rows.take h).drop l)) else none
     | _, _ => none
   else none
  | _, _ => none
 | some (.slice e), .rsl id es off len =>
  match boundA 0 lo, boundA len hi, mx with
  | some l, some h, none => if l ≤ h ∧ h ≤ len ∧ es = P.cellsOf e ∧ 0 < es then some (.rsl id es (off + l) (h - l)) else none
  | some 0, some 0, some (.int _ 0) => match hi with
   | some _ => if 0 < P.cellsOf e then some (.sl true (P.cellsOf e) []) else none
   | none => none
  | some l, some h, some m => match hi with
   | some _ => if l ≤ h ∧ h ≤ len ∧ boundA 0 (some m) = some h ∧ es = P.cellsOf e ∧ 0 < es then some (.csl id es (off + l) (h - l)) else none
   | none => none
  | _, _, _ => none
 | some (.slice e), .nilsl =>
  match boundA 0 lo, boundA 0 hi, mx with
  | some 0, some 0, none => if P.cellsOf e = 0 then none else some .nilsl
  | _, _, _ => none
 | _, _ => none
def lenA (S : Sto) (t : TypeId) (x : AV) : Option AV :=
 match P.underlying t, x with
 | some .string, .str s => some (.int .i64 s.length)
 | some (.array n _), _ => some (.int .i64 n)
 | some (.slice _), .nilsl => some (.int .i64 0)
 | some (.slice _), .sl _ _ rows => some (.int .i64 rows.length)
 | some (.slice _), .rsl _ _ _ len => some (.int .i64 len)
 | some (.slice _), .csl _ _ _ len => some (.int .i64 len)
 | some (.map _ _), .nilmap => some (.int .i64 0)
 | some (.map _ _), .map id => match S.get id with
  | some (.map es) => some (.int .i64 es.length)
  | _ => none
 | _, _ => none
def capA (t : TypeId) (x : AV) : Option AV :=
 match P.underlying t, x with
 | some (.slice _), .nilsl => some (.int .i64 0)
 | _, _ => none
def min2 : AV → AV → Option AV
 | .int k x, .int _ y => some (.int k (if y < x then y else x))
 | _, _ => none
def max2 : AV → AV → Option AV
 | .int k x, .int _ y => some (.int k (if y > x then y else x))
 | _, _ => none
def foldB (g : AV → AV → Option AV) : AV → List AV → Option AV
 | x, [] => some x
 | x, y :: r => match g x y with
  | some z => foldB g z r
  | none => none
def foldA (g : AV → AV → Option AV) : List AV → Option AV
 | [] => none
 | x :: r => foldB g x r
def rowsOf (es : Nat) : AV → Option (List (List AV))
 | .nilsl => some []
 | .sl _ es' rows => if es' = es then some rows else none
 | .str s => if es = 1 then some (s.map byteRow) else none
 | _ => none
def fillA (places : Nat → Option (Nat × Nat)) (cells : List AV) : List (Nat × AV) → Option (List AV)
 | [] => some cells
 | (i, v) :: rest => match places i with
  | none => none
  | some (off, size) =>
   if okTop v = true ∧ v.cells.length = size ∧ off + size ≤ cells.length then
    fillA places (cells.take off ++ v.cells ++ cells.drop (off + size)) rest
   else none
def structPlaces (t : TypeId) (i : Nat) : Option (Nat × Nat) :=
 (fieldOf P t i).map fun f => (f.offset, P.cellsOf f.type)
def buildA (t : TypeId) (parts : List (Nat × AV)) : Option AV :=
 if t < P.types.size then
  match zeroA P t, P.underlying t with
  | some z, some (.struct _) => (fillA (structPlaces P t) z.cells parts).map .agg
  | some z, some (.array _ e) => (fillA (fun i => some (i * P.cellsOf e, P.cellsOf e)) z.cells parts).map .agg
  | _, _ => none
 else none
def fillRows (es : Nat) (rows : List (List AV)) : List (Nat × AV) → Option (List (List AV))
 | [] => some rows
 | (i, v) :: rest =>
  if okTop v = true ∧ v.cells.length = es ∧ i < rows.length then fillRows es (rows.set i v.cells) rest else none
def buildSliceA (t : TypeId) (len : Nat) (parts : List (Nat × AV)) : Option AV :=
 match P.underlying t with
 | some (.slice e) => match zeroA P e with
  | some z =>
   if 0 < P.cellsOf e ∧ z.cells.length = P.cellsOf e ∧ len * P.cellsOf e ≤ 16777216 then
    (fillRows (P.cellsOf e) (List.replicate len z.cells) parts).map (.sl true (P.cellsOf e))
   else none
  | none => none
 | _ => none
def makeSliceA (t : TypeId) (len cap : AV) : Option AV :=
 match P.underlying t, len, cap with
 | some (.slice e), .int _ l, .int _ c => match zeroA P e with
  | some z =>
   if 0 < P.cellsOf e ∧ z.cells.length = P.cellsOf e ∧ 0 ≤ l ∧ l ≤ c ∧ c < 4611686018427387904 ∧ P.bytesOf e * c ≤ 140737488355328 then
    some (.sl true (P.cellsOf e) (List.replicate l.toNat z.cells))
   else none
  | none => none
 | _, _, _ => none
def isAggV : AV → Bool
 | .agg _ => true
 | _ => false
def aggT (t : TypeId) : Bool :=
 match P.underlying t with
 | some (.struct _) | some (.array _ _) => true
 | _ => false
def loadA (S : Sto) (env : List AV) (t : TypeId) (a : AV) : Option AV :=
 match a with
 | .ptr id off => match S.get id with
  | some (.cells cs) => valAt P t ((cs.drop off).map AV.strip0)
  | _ => none
 | .lptr s off => match env.getD s .undef with
  | .box cs => valAt P t ((cs.drop off).map AV.strip0)
  | _ => none
 | .fptr cs => valAt P t cs
 | .aptr id r off => match S.get id with
  | some (.arr _ rows) => match rows[r]? with
   | some row => valAt P t (row.drop off)
   | none => none
  | _ => none
 | _ => none
def takeCells (t : TypeId) (off : Nat) (cs : List AV) : Option (AV × List AV) :=
 match valAt P t (cs.drop off) with
 | none => none
 | some v => if aggT P t || !isAggV v then some (v, cs.take off ++ (v.cells.map AV.strip0) ++ cs.drop (off + v.cells.length)) else none
def writeCells (t : TypeId) (off : Nat) (cs : List AV) (v : AV) : Option (List AV) :=
 if okTop v = true ∧ v.cells.length = P.cellsOf t ∧ P.cellsOf t ≠ 0 ∧ off + v.cells.length ≤ cs.length then
  some (cs.take off ++ v.cells ++ cs.drop (off + v.cells.length))
 else none
def assertA (x : AV) (asserted : TypeId) (ok : Bool) : Option AV :=
 match P.underlying asserted, x with
 | some (.interface _), _ => none
 | some _, .iface t v =>
  if t = asserted then some (if ok then .tup [v, .bool true] else v)
  else if ok then (zeroA P asserted).map fun z => .tup [z, .bool false] else none
 | some _, .niliface => if ok then (zeroA P asserted).map fun z => .tup [z, .bool false] else none
 | _, _ => none
def pureA (pol : Pol) (f : FuncId) (o : Oper) (env : List AV) : Option AV :=
 match o.op with
 | .move x => match o.dst with
  | some d => some (if pol.take f d then opt env x else opd env x)
  | none => none
 | .assign x => some (opt env x)
 | .pick c a b => match opd env c with
  | .bool c => some (if c then opd env a else opd env b)
  | _ => none
 | .build t ps => match ps.toList with
  | [(i, x)] => buildA P t [(i, opt env x)]
  | l => buildA P t (l.map fun p => (p.1, opd env p.2))
 | .nilCheck x => match adr env x with
  | .ptr id off => some (.ptr id off)
  | .lptr s off => some (.lptr s off)
  | .fptr cs => some (.fptr cs)
  | .aptr id r off => some (.aptr id r off)
  | .fn (.func g) a b => some (.fn (.func g) a b)
  | .yld id => some (.yld id)
  | _ => none
 | .binOp op t x y _ => binA P op t ((x matches .const _) || (y matches .const _)) (opd env x) (opd env y)
 | .unOp op _ x => unA op (opd env x)
 | .makeInterface t x => match P.underlying t with
  | some (.interface _) => none
  | some _ => some (.iface t (opd env x))
  | none => none
 | .makeFunc fn first cap => match fn with
  | .yield _ => none
  | fn => some (.fn fn (first.toList.map (opd env)) (cap.toList.map (opd env)))
 | .slice t x lo hi mx => sliceA P t (opt env x) (lo.map (opd env)) (hi.map (opd env)) (mx.map (opd env))
 | .fieldAddr s x i => fieldAddrA P s (adr env x) i
 | .field t x i => fieldA P t (opd env x) i
 | .indexAddr t x i => indexAddrA P t (adr env x) (opd env i)
 | .index t x i => indexA P t (opd env x) (opd env i)
 | .typeAssert x _ t ok => assertA P (opd env x) t ok
 | .extract x i => match opd env x with
  | .tup vs => vs[i]?
  | _ => none
 | .call { callee := .builtin .cap, args, argTypes, .. } => match args.toList, argTypes.toList with
  | [a], t :: _ => capA P t (opd env a)
  | _, _ => none
 | .call { callee := .builtin .min, args, .. } => foldA min2 (args.toList.map (opd env))
 | .call { callee := .builtin .max, args, .. } => foldA max2 (args.toList.map (opd env))
 | _ => none
def isPure (o : Oper) : Bool :=
 match o.op with
 | .move _ | .assign _ | .pick _ _ _ | .build _ _ | .nilCheck _ | .binOp .. | .unOp .. | .makeInterface .. | .makeFunc ..
 | .slice .. | .fieldAddr .. | .field .. | .indexAddr .. | .index .. | .typeAssert .. | .extract .. => true
 | .call { callee := .builtin .min, .. } | .call { callee := .builtin .max, .. } | .call { callee := .builtin .cap, .. } => true
 | _ => false
inductive OR where
 | val (v : AV) (st : St)
 | call (t : Tgt) (args : List AV) (st : St)
 | pan (chain : List APan) (st : St)
def St.puts (st : St) (dst : Option Tmp) (v : AV) : St :=
 match dst with
 | some d => { st with env := st.env.set d v }
 | none => st
def noPlaceIn (env : List AV) (s : Tmp) : List Tmp → Bool
 | [] => true
 | t :: ts => (match env.getD t .undef with
  | .lptr s' _ => !(s' == s)
  | _ => true) && noPlaceIn env s ts
def newVarA (pol : Pol) (f : FuncId) (pl : List Tmp) (dst : Option Tmp) (cs : List AV) (st : St) : Option OR :=
 match dst with
 | none => none
 | some d =>
  if pol.loc f d then (if noPlaceIn st.env d pl then some (.val (.box cs) st) else none)
  else some (.val (.ptr st.S.next 0) { st with S := st.S.new (.cells cs) })
def loadS (pol : Pol) (f : FuncId) (dst : Option Tmp) (t : TypeId) (a : AV) (st : St) : Option OR :=
 match dst with
 | none => none
 | some d =>
  if pol.take f d then
   match a with
   | .ptr id off => match st.S.get id with
    | some (.cells cs) => (takeCells P t off cs).map fun (v, cs') => .val v { st with S := st.S.put id (.cells cs') }
    | _ => none
   | .lptr s off => match st.env.getD s .undef with
    | .box cs => if s = d then none else (takeCells P t off cs).map fun (v, cs') => .val v { st with env := st.env.set s (.box cs') }
    | _ => none
   | _ => none
  else (loadA P st.S st.env t a).map fun v => .val v st
def storeS (t : TypeId) (a v : AV) (st : St) : Option OR :=
 match a with
 | .ptr id off => match st.S.get id with
  | some (.cells cs) => (writeCells P t off cs v).map fun cs' => .val .undef { st with S := st.S.put id (.cells cs') }
  | _ => none
 | .lptr s off => match st.env.getD s .undef with
  | .box cs => (writeCells P t off cs v).map fun cs' => .val .undef { st with env := st.env.set s (.box cs') }
  | _ => none
 | .aptr id r off => match st.S.get id with
  | some (.arr es rows) => match rows[r]? with
   | some row => (writeCells P t off row v.strip1).map fun row' => .val .undef { st with S := st.S.put id (.arr es (rows.set r row')) }
   | none => none
  | _ => none
 | _ => none
def rowsIn (S : Sto) (es : Nat) : AV → Option (List (List AV))
 | .rsl id _ off len => match S.get id with
  | some (.arr es' rows) => if es' = es ∧ off + len ≤ rows.length then some ((rows.drop off).take len) else none
  | _ => none
 | v => rowsOf es v
def moreA (S : Sto) (e xType : TypeId) (x : AV) : Option (List (List AV)) :=
 match P.underlying xType, x with
 | some (.int _), .int _ n => match zeroA P e with
  | some z => if 0 ≤ n ∧ n < 1099511627776 ∧ z.cells.length = P.cellsOf e ∧ n * P.bytesOf e ≤ 281474976710656 then some (List.replicate n.toNat z.cells) else none
  | none => none
 | some (.int _), _ => none
 | some _, x => rowsIn S (P.cellsOf e) x
 | none, _ => none
def bigA (e : TypeId) (n : Nat) : Prop := P.cellsOf e = 0 ∨ 140737488355328 < n * P.bytesOf e ∨ 4611686018427387904 < n
instance (e : TypeId) (n : Nat) : Decidable (bigA P e n) := by unfold bigA; infer_instance
def appInline (e : TypeId) (base : AV) (more : List (List AV)) : Option AV :=
 match more with
 | [] => match base with
  | .nilsl => some .nilsl
  | .sl own es rows => some (.sl own es rows)
  | _ => none
 | m :: ms => match base with
  | .nilsl => if bigA P e (m :: ms).length then none else some (.sl true (P.cellsOf e) (m :: ms))
  | .sl own es rows => if es ≠ P.cellsOf e ∨ own = false ∨ bigA P e (rows.length + (m :: ms).length) then none else some (.sl true es (rows ++ (m :: ms)))
  | _ => none
def appHeap (e : TypeId) (base : AV) (more : List (List AV)) (st : St) : Option OR :=
 match more with
 | [] => match base with
  | .nilsl => some (.val .nilsl st)
  | .sl own es [] => some (.val (.sl own es []) st)
  | .rsl id es off len => some (.val (.rsl id es off len) st)
  | _ => none
 | m :: ms => match base with
  | .nilsl => if bigA P e (m :: ms).length then none else
   some (.val (.rsl st.S.next (P.cellsOf e) 0 (m :: ms).length) { st with S := st.S.new (.arr (P.cellsOf e) (m :: ms)) })
  | .sl true es [] => if es ≠ P.cellsOf e ∨ bigA P e (m :: ms).length then none else
   some (.val (.rsl st.S.next es 0 (m :: ms).length) { st with S := st.S.new (.arr es (m :: ms)) })
  | .rsl id es off len => match st.S.get id with
   | some (.arr es' rows) =>
    if es ≠ P.cellsOf e ∨ es' ≠ es ∨ bigA P e (len + (m :: ms).length) then none
    else if off + len + (m :: ms).length ≤ rows.length then
     some (.val (.rsl id es off (len + (m :: ms).length)) { st with S := st.S.put id (.arr es (rows.take (off + len) ++ (m :: ms) ++ rows.drop (off + len + (m :: ms).length))) })
    else if off + len = rows.length then
     some (.val (.rsl st.S.next es 0 (len + (m :: ms).length)) { st with S := (st.S.drop id).new (.arr es (rows.drop off ++ (m :: ms))) })
    else none
   | _ => none
  | _ => none
def appendS (how : Nat) (sType xType : TypeId) (base x : AV) (st : St) : Option OR :=
 match P.underlying sType with
 | some (.slice e) =>
  match zeroA P e with
  | none => none
  | some z =>
   if z.cells.length = P.cellsOf e then
    match moreA P (if how = 0 then { heap := [], next := 0 } else st.S) e xType x with
    | none => none
    | some more => if how = 2 then appHeap P e base more st else (appInline P e base more).map fun v => .val v st
   else none
 | _ => none
def srcA (S : Sto) (es : Nat) : AV → Option (List (List AV))
 | .rsl id es' off len => rowsIn S es (.rsl id es' off len)
 | .sl _ es' rows => if es' = es then some rows else none
 | _ => none
def copyS (dType : TypeId) (dst src : AV) (st : St) : Option OR :=
 match P.underlying dType, dst with
 | some (.slice e), .rsl id es off len => match st.S.get id with
  | some (.arr es' rows) => match srcA st.S es src with
   | some more => if es = P.cellsOf e ∧ es' = es ∧ off + len ≤ rows.length then
     some (.val (.int .i64 ((min more.length len : Nat) : Int)) { st with S := st.S.put id (.arr es (rows.take off ++ more.take (min more.length len) ++ rows.drop (off + min more.length len))) })
    else none
   | none => none
  | _ => none
 | _, _ => none
def keyT1 (t : TypeId) : Bool := match P.underlying t with
 | some (.int _) | some .string | some .bool => true
 | _ => false
def keyF (xs : List AV) : List Field → Bool
 | [] => true
 | f :: fs => f.name != "_" && keyT1 P f.type && (valAt P f.type (xs.drop f.offset)).isSome && keyF xs fs
def keyOK (t : TypeId) (k : AV) : Bool := match P.underlying t, k with
 | some (.struct fs), .agg xs => keyF P xs fs.toList
 | _, _ => keyT1 P t
def plain1 : AV → Bool
 | .bool _ | .int _ _ | .str _ => true
 | _ => false
def plainK : AV → Bool
 | .agg cs => cs.all plain1
 | v => plain1 v
def findA (kt : TypeId) (k : AV) : List (AV × AV) → Nat → Option (Option (Nat × AV × AV))
 | [], _ => some none
 | (k', v) :: es, i => match eqA P Op.maxDepth kt k k' with
  | some true => some (some (i, k', v))
  | some false => findA kt k es (i + 1)
  | none => none
def mapIn (S : Sto) : AV → Option (List (AV × AV))
 | .nilmap => some []
 | .map id => match S.get id with
  | some (.map es) => some es
  | _ => none
 | _ => none
def lookA (S : Sto) (t : TypeId) (m k : AV) (ok : Bool) : Option AV :=
 match P.underlying t with
 | some (.map kt et) =>
  if keyOK P kt k then
   match mapIn S m with
   | some es => match findA P kt k es 0 with
    | some (some (_, _, v)) => some (if ok then .tup [v, .bool true] else v)
    | some none => (zeroA P et).map fun z => if ok then .tup [z, .bool false] else z
    | none => none
   | none => none
  else none
 | _ => none
def putA (es : List (AV × AV)) (k v : AV) : Option (Nat × AV × AV) → Option (List (AV × AV))
 | some (i, k', _) => if plainK k' && AV.same k' k then some (es.set i (k', v)) else none
 | none => some (es ++ [(k, v)])
def mapPutS (t : TypeId) (m k v : AV) (st : St) : Option OR :=
 match P.underlying t, m with
 | some (.map kt _), .map id =>
  if keyOK P kt k then
   match st.S.get id with
   | some (.map es) => match findA P kt k es 0 with
    | some r => (putA es k v r).map fun es' => .val .undef { st with S := st.S.put id (.map es') }
    | none => none
   | _ => none
  else none
 | _, _ => none
def delA (es : List (AV × AV)) : Option (Nat × AV × AV) → List (AV × AV)
 | some (i, _) => es.eraseIdx i
 | none => es
def mapDelS (t : TypeId) (m k : AV) (st : St) : Option OR :=
 match P.underlying t, m with
 | some (.map kt _), .map id =>
  if keyOK P kt k then
   match st.S.get id with
   | some (.map es) => (findA P kt k es 0).map fun r => .val .undef { st with S := st.S.put id (.map (delA es r)) }
   | _ => none
  else none
 | _, _ => none
def frzSl (pol : Pol) (f : FuncId) (o : Oper) : Bool := match o.op, o.dst with
 | .slice .., some d => pol.arr f d == 3
 | _, _ => false
def chunk (es : Nat) : Nat → List AV → List (List AV)
 | 0, _ => []
 | n + 1, cs => cs.take es :: chunk es n (cs.drop es)
def sliceF (t : TypeId) (a : AV) (lo hi mx : Option Operand) (st : St) : Option OR :=
 match P.underlying t, a, lo, hi, mx with
 | some (.array n e), .ptr id 0, none, none, none => match st.S.get id with
  | some (.cells cs) => if 0 < P.cellsOf e ∧ cs.length = n * P.cellsOf e then
    some (.val (.sl false (P.cellsOf e) (chunk (P.cellsOf e) n (cs.map AV.strip0))) { st with S := st.S.drop id })
   else none
  | _ => none
 | _, _, _, _, _ => none
def asArr (v : AV) (st : St) : Option OR :=
 match v with
 | .sl _ es rows => some (.val (.rsl st.S.next es 0 rows.length) { st with S := st.S.new (.arr es rows) })
 | _ => none
def calleeA (args : List AV) : AV → Option (Tgt × List AV)
 | .fn (.func g) first cap => some (.func g, first ++ args ++ cap)
 | .yld id => some (.yield id, args)
 | _ => none
def invA (name : String) (args : List AV) : AV → Option (Tgt × List AV)
 | .iface t v => match P.info? t, P.underlying t with
  | some i, some (.pointer _) => match i.methods.find? (·.name == name) with
   | some m => match m.func with
    | some (g, true) => if m.path.isEmpty && okTop v then some (.func g, v :: args) else none
    | _ => none
   | none => none
  | _, _ => none
 | _ => none
def recoverA (st : St) : Option (AV × St) :=
 match st.par with
 | .unk => none
 | .panicking (⟨v, false⟩ :: older) => some (v, { st with par := .panicking (⟨v, true⟩ :: older) })
 | _ => some (.niliface, st)
def sole (args : List Operand) : Operand → Bool
 | .tmp t => (tmpsOf args).count t == 1
 | _ => false
def argsA (env : List AV) (args : List Operand) : List AV := args.map fun x => if sole args x then opt env x else opd env x
def deferA (st : St) (f : AV) (args : List AV) : Option St :=
 match st.par, f with
 | .unk, _ => none
 | _, .fn (.func g) first cap => some { st with defs := ⟨.fn (.func g) cap, first ++ args⟩ :: st.defs }
 | _, _ => none
def isCl (pol : Pol) : Operand → Bool
 | .func g => pol.clone g
 | _ => false
def isCloneF (fn : Func) : Bool := fn.body.isNone && (fn.name == "maps.clone" && fn.origin == "")
def cloneA (g : Operand) (args : List AV) (st : St) : Option OR :=
 match g, args with
 | .func g, [.iface t (.map id)] => match P.funcs[g]? with
  | some fn => if isCloneF fn then match st.S.get id with
   | some (.map es) => some (.val (.iface t (.map st.S.next)) { st with S := st.S.new (.map es) })
   | _ => none
   else none
  | none => none
 | _, _ => none
def opA (pol : Pol) (f : FuncId) (pl : List Tmp) (o : Oper) (st0 : St) : Option OR :=
 let env := st0.env
 let st := { st0 with env := stripAt env (consumed pol f o) }
 match o.op with
 | .alloc t => match zeroA P t with
  | some z => newVarA pol f pl o.dst z.cells st
  | none => none
 | .box t x =>
  if okTop (opt env x) = true ∧ (opt env x).cells.length = P.cellsOf t then newVarA pol f pl o.dst (opt env x).cells st else none
 | .load t a => loadS P pol f o.dst t (adr env a) st
 | .store t a x => storeS P t (adr env a) (opt env x) st
 | .call { callee := .builtin .len, args, argTypes, .. } => match args.toList, argTypes.toList with
  | [a], t :: _ => (lenA P st.S t (opd env a)).map fun v => .val v st
  | _, _ => none
 | .call { callee := .builtin .recover, .. } => (recoverA st).map fun (v, st') => .val v st'
 | .call { callee := .value g, args, .. } =>
  if isCl pol g then cloneA P g (args.toList.map (opd env)) st
  else (calleeA (argsA env args.toList) (opd env g)).map fun (t, as) => .call t as st
 | .call { callee := .invoke r name, args, .. } => (invA P name (args.toList.map (opd env)) (opd env r)).map fun (t, as) => .call t as st
 | .defer { callee := .value g, args, .. } => (deferA st (opd env g) (args.toList.map (opd env))).map fun st' => .val .undef st'
 | .panic x => match opd env x with
  | .iface t v => some (.pan [⟨.iface t v, false⟩] st)
  | _ => none
 | .range t x => match P.underlying t, opd env x with
  | some .string, .str s => some (.val (.ptr st.S.next 0) { st with S := st.S.new (.siter ⟨s.toArray⟩ 0) })
  | _, _ => none
 | .call { callee := .builtin .append, args, argTypes, .. } => match o.dst, args.toList, argTypes.toList with
  | some d, [a, b], s :: x :: _ =>
   appendS P (pol.arr f d) s x (opt env a) (opd env b) st
  | _, _, _ => none
 | .makeSlice t l c => match o.dst, makeSliceA P t (opd env l) (opd env c) with
  | some d, some v => if pol.arr f d = 2 then asArr v st else some (.val v st)
  | _, _ => none
 | .buildSlice t len ps => match o.dst, buildSliceA P t len (ps.toList.map fun p => (p.1, opd env p.2)) with
  | some d, some v => if pol.arr f d = 2 then asArr v st else some (.val v st)
  | _, _ => none
 | .convert src dst x => match o.dst with
  | some d =>
   match convA P src dst (opt env x) with
   | some v => some (.val v st)
   | none =>
    if pol.arr f d = 0 then none
    else match P.underlying src, P.underlying dst, opd env x with
     | some (.slice e), some .string, .rsl id es off len => match P.underlying e with
      | some (.int .u8) => match rowsIn st.S 1 (.rsl id es off len) with
       | some rows => (bytesOf? rows).map fun b => .val (.str b) st
       | none => none
      | _ => none
     | _, _, _ => none
  | none => none
 | .slice t x lo hi mx => if frzSl pol f o then sliceF P t (adr env x) lo hi mx st else (pureA P pol f o env).map fun v => .val v st
 | .makeMap _ none => some (.val (.map st.S.next) { st with S := st.S.new (.map []) })
 | .lookup t m k ok => (lookA P st.S t (opd env m) (opd env k) ok).map fun v => .val v st
 | .mapUpdate t m k v => mapPutS P t (opd env m) (opd env k) (opd env v) st
 | .insert t m k v => mapPutS P t (opd env m) (opd env k) (opd env v) st
 | .call { callee := .builtin .delete, args, argTypes, .. } => match args.toList, argTypes.toList with
  | [m, k], t :: _ => mapDelS P t (opd env m) (opd env k) st
  | _, _ => none
 | .call { callee := .builtin .copy, args, argTypes, .. } => match args.toList, argTypes.toList with
  | [a, b], t :: _ => copyS P t (opd env a) (opd env b) st
  | _, _ => none
 | .next x true => match opd env x with
  | .ptr id 0 => match st.S.get id with
   | some (.siter s pos) =>
    if pos < s.size then
     some (.val (.tup [.bool true, .int .i64 pos, .int .i32 (Utf8.decode s pos).1]) { st with S := st.S.put id (.siter s (pos + (Utf8.decode s pos).2)) })
    else some (.val (.tup [.bool false]) st)
   | _ => none
  | _ => none
 | _ => if isPure o then (pureA P pol f o env).map fun v => .val v st else none
def kMove (pol : Pol) (f : FuncId) (dst : Option Tmp) (x : Operand) (st : St) : Option OR :=
 match dst with
 | some t => bif pol.take f t then some (.val (opt st.env x) { st with env := stripAt st.env (tmpsOf [x]) }) else some (.val (opd st.env x) st)
 | none => none
def kAssign (x : Operand) (st : St) : Option OR := some (.val (opt st.env x) { st with env := stripAt st.env (tmpsOf [x]) })
def kPick (c a b : Operand) (st : St) : Option OR :=
 match opd st.env c with
 | .bool c => some (.val (if c then opd st.env a else opd st.env b) st)
 | _ => none
def kVal (st : St) (v : Option AV) : Option OR := v.map fun v => .val v st
def kPlace : AV → Option AV
 | .ptr id off => some (.ptr id off)
 | .lptr s off => some (.lptr s off)
 | .fptr cs => some (.fptr cs)
 | .aptr id r off => some (.aptr id r off)
 | .fn (.func g) a b => some (.fn (.func g) a b)
 | .yld id => some (.yld id)
 | _ => none
def kBin (op : BinOp) (t : TypeId) (x y : Operand) (st : St) : Option OR := kVal st (binA P op t ((x matches .const _) || (y matches .const _)) (opd st.env x) (opd st.env y))
def kIface (t : TypeId) (x : Operand) (st : St) : Option OR := kVal st (match P.underlying t with
  | some (.interface _) => none
  | some _ => some (.iface t (opd st.env x))
  | none => none)
def kFunc (fn : Fn) (first cap : Array Operand) (st : St) : Option OR := kVal st (match fn with
  | .yield _ => none
  | fn => some (.fn fn (first.toList.map (opd st.env)) (cap.toList.map (opd st.env))))
def kSlice (pol : Pol) (f : FuncId) (pl : List Tmp) (o : Oper) (t : TypeId) (x : Operand) (lo hi mx : Option Operand) (st : St) : Option OR :=
 bif frzSl pol f o then opA P pol f pl o st else kVal { st with env := stripAt st.env (tmpsOf [x]) } (sliceA P t (opt st.env x) (lo.map (opd st.env)) (hi.map (opd st.env)) (mx.map (opd st.env)))
def kExtract (x : Operand) (i : Nat) (st : St) : Option OR := kVal st (match opd st.env x with
  | .tup vs => vs[i]?
  | _ => none)
def kBox (pol : Pol) (f : FuncId) (pl : List Tmp) (dst : Option Tmp) (t : TypeId) (x : Operand) (st : St) : Option OR :=
 if okTop (opt st.env x) = true ∧ (opt st.env x).cells.length = P.cellsOf t then newVarA pol f pl dst (opt st.env x).cells { st with env := stripAt st.env (tmpsOf [x]) } else none
def kAlloc (pol : Pol) (f : FuncId) (pl : List Tmp) (dst : Option Tmp) (t : TypeId) (st : St) : Option OR :=
 match zeroA P t with
 | some z => newVarA pol f pl dst z.cells st
 | none => none
def kLen (args : List Operand) (ts : List TypeId) (st : St) : Option OR :=
 match args, ts with
 | [a], t :: _ => kVal st (lenA P st.S t (opd st.env a))
 | _, _ => none
def kCap (args : List Operand) (ts : List TypeId) (st : St) : Option OR :=
 match args, ts with
 | [a], t :: _ => kVal st (capA P t (opd st.env a))
 | _, _ => none
def kCallV (g : Operand) (args : List Operand) (st : St) : Option OR :=
 (calleeA (argsA st.env args) (opd st.env g)).map fun (t, as) => .call t as { st with env := stripAt st.env (tmpsOf args) }
def kAppend (pol : Pol) (f : FuncId) (dst : Option Tmp) (args : List Operand) (ts : List TypeId) (st : St) : Option OR :=
 match dst, args, ts with
 | some d, [a, b], s :: x :: _ => appendS P (pol.arr f d) s x (opt st.env a) (opd st.env b) { st with env := stripAt st.env (tmpsOf (args.take 1)) }
 | _, _, _ => none
def kRest (pol : Pol) (f : FuncId) (pl : List Tmp) (o : Oper) (st : St) : Option OR := opA P pol f pl o st
def kCall (pol : Pol) (f : FuncId) (pl : List Tmp) (o : Oper) (callee : Callee) (args : Array Operand) (ts : Array TypeId) (st : St) : Option OR :=
 match callee with
 | .value g => bif isCl pol g then kRest P pol f pl o st else kCallV g args.toList st
 | .builtin .len => kLen P args.toList ts.toList st
 | .builtin .append => kAppend P pol f o.dst args.toList ts.toList st
 | _ => kRest P pol f pl o st
def opK (pol : Pol) (f : FuncId) (pl : List Tmp) (o : Oper) (st : St) : Option OR :=
 match o.op with
 | .move x => kMove pol f o.dst x st
 | .assign x => kAssign x st
 | .pick c a b => kPick c a b st
 | .nilCheck x => kVal st (kPlace (adr st.env x))
 | .binOp op t x y _ => kBin P op t x y st
 | .unOp op _ x => kVal st (unA op (opd st.env x))
 | .makeInterface t x => kIface P t x st
 | .makeFunc fn first cap => kFunc fn first cap st
 | .slice t x lo hi mx => kSlice P pol f pl o t x lo hi mx st
 | .fieldAddr s x i => kVal st (fieldAddrA P s (adr st.env x) i)
 | .field t x i => kVal st (fieldA P t (opd st.env x) i)
 | .indexAddr t x i => kVal st (indexAddrA P t (adr st.env x) (opd st.env i))
 | .index t x i => kVal st (indexA P t (opd st.env x) (opd st.env i))
 | .extract x i => kExtract x i st
 | .box t x => kBox P pol f pl o.dst t x st
 | .alloc t => kAlloc P pol f pl o.dst t st
 | .load t a => loadS P pol f o.dst t (adr st.env a) st
 | .store t a x => storeS P t (adr st.env a) (opt st.env x) { st with env := stripAt st.env (tmpsOf [x]) }
 | .call { callee, args, argTypes } => kCall P pol f pl o callee args argTypes st
 | _ => kRest P pol f pl o st
theorem opK_eq (pol : Pol) (f : FuncId) (pl : List Tmp) (o : Oper) (st : St) : opK P pol f pl o st = opA P pol f pl o st := by
 obtain ⟨d, op, ty, po, af, g⟩ := o
 cases op <;> try rfl
 case slice t x lo hi mx =>
  simp only [opK, kSlice]
  cases hf : frzSl pol f ⟨d, .slice t x lo hi mx, ty, po, af, g⟩ with
  | true => rfl
  | false => unfold opA; simp only [hf, Bool.false_eq_true, if_false]; rfl
 case move x =>
  cases d with
  | none => rfl
  | some t =>
   simp only [opK, kMove, opA, isPure, if_true, pureA, consumed]
   cases pol.take f t <;> rfl
 case pick c a b =>
  simp only [opK, kPick, opA, isPure, if_true, pureA, consumed, stripAt]
  cases opd st.env c <;> rfl
 case call c =>
  obtain ⟨callee, args, ts⟩ := c
  cases callee <;> try rfl
  case value g =>
   simp only [opK, kCall, kCallV, kRest]
   cases hc : isCl pol g with
   | true => rfl
   | false => unfold opA; simp only [hc, consumed]; rfl
  rename_i b
  cases b <;> rfl
def wantedA (ops : Array Oper) (o : Oper) (env : List AV) : Option Bool :=
 match o.guard with
 | none => some true
 | some (j, want) => match (ops[j]?).bind (·.dst) with
  | some d => match env.getD d .undef with
   | .bool b => some (b == want)
   | .tup [] => some false
   | _ => none
  | none => some false
def isPlaceOp (o : Oper) : Option Tmp :=
 match o.op with
 | .fieldAddr .. | .indexAddr .. | .nilCheck .. => o.dst
 | _ => none
def wipe (env : List AV) : List Tmp → List AV
 | [] => env
 | t :: ts => wipe (env.set t .unk) ts
def AV.noLp : AV → AV
 | .lptr _ _ => .unk
 | v => v
def leftA (o : Oper) (v : AV) : AV := match isPlaceOp o with
 | some _ => v
 | none => v.noLp
structure Handler where
 free : FuncId → Bool
 call : Tgt → List AV → Sto → Option (AEnd × Sto)
 callD : FuncId → List AV → AMode → Sto → Option (AEnd × AMode × Sto)
 code : FuncId → Option Nat → Code → St → Option (AExit × St)
def evOps (H : Handler) (pol : Pol) (f : FuncId) (ops : Array Oper) (pl : List Tmp) : List Nat → St → Option (AExit × St)
 | [], st => some (.normal, { st with env := wipe st.env pl })
 | i :: rest, st =>
  match ops[i]? with
  | none => none
  | some o =>
   match wantedA ops o st.env with
   | none => none
   | some false => evOps H pol f ops pl rest (st.puts o.dst .undef)
   | some true =>
    match opK P pol f pl o st with
    | none => none
    | some (.val v st') => evOps H pol f ops pl rest (st'.puts o.dst (leftA o v))
    | some (.pan ch st') => some (.pan ch, st')
    | some (.call t as st') =>
     match H.call t as st'.S with
     | none => none
     | some (.ret v, S') => evOps H pol f ops pl rest ({ st' with S := S' }.puts o.dst (leftA o v))
     | some (.pan ch, S') => some (.pan ch, { st' with S := S' })
def maskE : List Bool → List AV → List AV
 | true :: ks, v :: vs => v :: maskE ks vs
 | false :: ks, _ :: vs => .unk :: maskE ks vs
 | [], vs => vs
 | _, [] => []
def St.masked (st : St) (keep : Option (List Bool)) : St :=
 match keep with
 | some ks => { st with env := maskE ks st.env }
 | none => st
def loopN (keep : Option (List Bool)) (body : St → Option (AExit × St)) : Nat → St → Option (AExit × St)
 | 0, _ => none
 | k + 1, st => match body (st.masked keep) with
  | some (.normal, st') => loopN keep body k st'
  | r => r
def rdr (pol : Pol) (f : FuncId) (o : Oper) : Bool :=
 match o.op with
 | .load .. => match o.dst with | some d => !pol.take f d | none => false
 | .buildSlice .. | .makeSlice .. => match o.dst with | some d => !(pol.arr f d == 2) | none => false
 | .convert .. => true
 | .call { callee := .builtin .append, .. } => match o.dst with | some d => !(pol.arr f d == 2) | none => false
 | .call { callee := .builtin .len, .. } => true
 | .slice .. => !frzSl pol f o
 | _ => isPure o
def looksS (o : Oper) : Bool :=
 match o.op with
 | .load .. | .convert .. | .call { callee := .builtin .append, .. } | .call { callee := .builtin .len, .. } => true
 | _ => false
def wrt (pol : Pol) (f : FuncId) (o : Oper) : Bool :=
 match o.op with
 | .load .. => match o.dst with | some d => pol.take f d | none => false
 | .store .. => true
 | .call { callee := .value g, .. } => !isCl pol g
 | .alloc _ | .box .. => match o.dst with | some d => !pol.loc f d | none => false
 | .lookup .. | .mapUpdate .. | .insert .. | .makeMap _ none => true
 | .call { callee := .builtin .delete, .. } | .call { callee := .builtin .copy, .. } => true
 | _ => false
def locA (pol : Pol) (f : FuncId) (o : Oper) : Bool :=
 match o.op with
 | .alloc _ | .box .. => match o.dst with | some d => pol.loc f d | none => false
 | _ => false
def isStore (o : Oper) : Bool :=
 match o.op with
 | .store .. | .alloc _ | .box .. | .mapUpdate .. | .insert .. | .makeMap .. => true
 | .call { callee := .builtin .delete, .. } | .call { callee := .builtin .copy, .. } => true
 | _ => false
def looksA (ops : Array Oper) (o : Oper) : List Tmp :=
 tmpsOf o.op.operands.toList ++ (match o.guard with | some (j, _) => ((ops[j]?).bind (·.dst)).toList | none => [])
def disj (a b : List Tmp) : Bool := a.all fun t => !b.contains t
def apartA (pol : Pol) (f : FuncId) (ops : Array Oper) (x y : Oper) : Bool :=
 disj x.dst.toList (looksA ops y) && disj x.dst.toList y.dst.toList && disj y.dst.toList (looksA ops x) &&
 disj (consumed pol f x) (looksA ops y) && disj (consumed pol f y) (looksA ops x)
def ancOf (tab : List (Nat × Nat)) (j : Nat) : Nat := match tab with
 | [] => 0
 | (i, m) :: r => if i = j then m else ancOf r j
def ancOne (tab : List (Nat × Nat)) (o : Oper) : Nat := o.after.toList.foldl (fun m e => if Region.binds .any e then m ||| (1 <<< e.on) ||| ancOf tab e.on else m) 0
def ancOneF (F : List (Nat × Nat)) (tab : List (Nat × Nat)) (j : Nat) (o : Oper) : Nat := F.foldl (fun m q => if q.2 = j then m ||| (1 <<< q.1) ||| ancOf tab q.1 else m) (ancOne tab o)
def ancTab (ops : Array Oper) (F : List (Nat × Nat)) : List Nat → List (Nat × Nat) → List (Nat × Nat)
 | [], tab => tab
 | i :: l, tab => ancTab ops F l (match ops[i]? with | some o => (i, ancOneF F tab i o) :: tab | none => tab)
def hangs (tab : List (Nat × Nat)) (x y : Nat) : Bool := (ancOf tab y).testBit x
def isLoad (o : Oper) : Bool := match o.op with
 | .load .. => true
 | _ => false
def freeCall (free : FuncId → Bool) (o : Oper) : Bool := match o.op with
 | .call { callee := .value (.func g), .. } => free g
 | _ => false
def plcOf (o : Oper) : Option Operand := match o.op with
 | .load _ a | .store _ a _ => some a
 | _ => none
def lpOp (o : Oper) (env : List AV) : Bool := match plcOf o with
 | some a => (match adr env a with | .lptr _ _ => true | _ => false)
 | none => false
def ownOK (own hp : List Nat) (i : Nat) (o : Oper) (env : List AV) : Bool := (!own.contains i || lpOp o env) && (!hp.contains i || !lpOp o env)
def isSt (o : Oper) : Bool := match o.op with
 | .store .. => true
 | _ => false
def farOK (pol : Pol) (f : FuncId) (ow hp : List Nat) (i j : Nat) (x y : Oper) : Bool := rdr pol f x && isLoad x && isSt y && (ow.contains i && hp.contains j || hp.contains i && ow.contains j)
def pairOK (free : FuncId → Bool) (pol : Pol) (f : FuncId) (ops : Array Oper) (ow hp : List Nat) (i j : Nat) : Bool :=
 match ops[i]?, ops[j]? with
 | some x, some y => apartA pol f ops x y && (rdr pol f x && !(looksS x && isStore y) || isLoad x && freeCall free y || locA pol f y || farOK pol f ow hp i j x y)
 | _, _ => false
def locOK (pol : Pol) (f : FuncId) (ops : Array Oper) : Bool :=
 !ops.toList.any (locA pol f) || (List.range ops.size).all fun j => match ops[j]? with
  | none => true
  | some y => !locA pol f y || (List.range ops.size).all fun i => match ops[i]? with
   | none => true
   | some x => disj y.dst.toList (consumed pol f x) && (i == j || disj y.dst.toList x.dst.toList)
def tabF (ops : Array Oper) (l : List Nat) (F : List (Nat × Nat)) : List (Nat × Nat) := ancTab ops F l []
def ahead (l : List Nat) (i j : Nat) : Bool := decide (l.idxOf i < l.idxOf j)
def stOK (free : FuncId → Bool) (pol : Pol) (f : FuncId) (ops : Array Oper) (ow hp : List Nat) (tab : List (Nat × Nat)) : List Nat → Bool
 | [] => true
 | i :: rest => rest.all (fun j => hangs tab i j || pairOK free pol f ops ow hp i j) && stOK free pol f ops ow hp tab rest
def closedB (m : Region.Mode) (ops : Array Oper) (done : List Nat) : List Nat → Bool
 | [] => true
 | i :: l => !done.contains i && (match ops[i]? with
  | some o => o.after.all fun e => !Region.binds m e || done.contains e.on
  | none => false) && closedB m ops (i :: done) l
def wholeB (m : Region.Mode) (ops : Array Oper) (l : List Nat) : Bool := closedB m ops [] l && l.length == ops.size
def schedB (ops : Array Oper) : List (List Nat) → Bool
 | [lt, lg] => wholeB .text ops lt && wholeB .gc ops lg
 | _ => false
def drawOK (free : FuncId → Bool) (pol : Pol) (f : FuncId) (ops : Array Oper) (ow hp : List Nat) (l : List Nat) (ws : List (List Nat)) (F : List (Nat × Nat)) : Bool :=
 wholeB .any ops l && (!Region.departs ops || schedB ops ws) && ops.toList.all (fun o => rdr pol f o || wrt pol f o || locA pol f o) && stOK free pol f ops ow hp (tabF ops l F) l && locOK pol f ops && F.all (fun q => ahead l q.1 q.2)
def noBoxAt (env : List AV) (ts : List Tmp) : Bool := ts.all fun t => match env.getD t .undef with | .box _ => false | _ => true
def sameOld (S S' : Sto) : Bool := S.heap.all fun (i, o) => match o with
 | .cells cs => match S'.get i with | some (.cells cs') => sameL cs cs' | _ => false
 | .arr es rows => match S'.get i with | some (.arr es' rows') => es == es' && sameR rows rows' | _ => false
 | .map es => match S'.get i with | some (.map es') => es.length == es'.length | _ => false
 | _ => true
def notBox : AV → Bool
 | .box _ => false
 | _ => true
def isFix (fx : List Nat) (o : Oper) : Bool := match o.op with
 | .load _ (.tmp a) => fx.contains a
 | _ => false
structure Need where
 strict : List Nat
 fix : List Nat
 fx : List Nat
 own : List Nat
 hp : List Nat
def Pol.needs (pol : Pol) (f : FuncId) (id : Nat) : Need := ⟨pol.need f id, (pol.needF f id).1, (pol.needF f id).2, pol.own f id, pol.hp f id⟩
def sameFix (env : List AV) (fx : List Nat) (S S' : Sto) : Bool := fx.all fun t => match env.getD t .undef with
 | .ptr id _ => match S.get id with
  | some (.cells cs) => match S'.get id with
   | some (.cells cs') => sameL cs cs'
   | _ => false
  | _ => true
 | .aptr _ _ _ => false
 | _ => true
def needS (pol : Pol) (f : FuncId) (ops : Array Oper) (fx ow : List Nat) (tab : List (Nat × Nat)) (j : Nat) : Bool :=
 (List.range ops.size).any fun i => (match ops[i]? with | some x => rdr pol f x && looksS x && !isFix fx x && !ow.contains i | none => false) && !hangs tab i j && !hangs tab j i
def needX (ops : Array Oper) (fx : List Nat) (tab : List (Nat × Nat)) (j : Nat) : Bool :=
 (List.range ops.size).any fun i => (match ops[i]? with | some x => isFix fx x | none => false) && !hangs tab i j && !hangs tab j i
def drawAll (free : FuncId → Bool) (pol : Pol) (f : FuncId) (id : Nat) (ops : Array Oper) (l : List Nat) (ws : List (List Nat)) (F : List (Nat × Nat)) : Bool :=
 drawOK free pol f ops (pol.needs f id).own (pol.needs f id).hp l ws F && (List.range ops.size).all (fun j => (!needS pol f ops (pol.needs f id).fx (pol.needs f id).own (tabF ops l F) j || (pol.needs f id).strict.contains j) && (!needX ops (pol.needs f id).fx (tabF ops l F) j || (pol.needs f id).fix.contains j)) &&
 (pol.needs f id).fx.all (fun t => !(ops.toList.flatMap fun o => o.dst.toList ++ consumed pol f o).contains t) && (ops.toList.flatMap fun o => o.dst.toList ++ consumed pol f o).all (fun t => (pol.wr f id).contains t)
def evOne (H : Handler) (pol : Pol) (f : FuncId) (ops : Array Oper) (need : Need) (pl : List Tmp) (i : Nat) (st : St) : Option (AExit × St) :=
 match ops[i]? with
 | none => none
 | some o =>
  match wantedA ops o st.env with
  | none => none
  | some false => some (.normal, st.puts o.dst .undef)
  | some true =>
   match opK P pol f pl o st with
   | none => none
   | some (.val v st') => if (notBox v || locA pol f o) && ownOK need.own need.hp i o st.env then some (.normal, st'.puts o.dst (leftA o v)) else none
   | some (.pan ch st') => some (.pan ch, st')
   | some (.call t as st') =>
    match H.call t as st'.S with
    | none => none
    | some (.ret v, S') => if notBox v && ((!need.strict.contains i || freeCall H.free o || sameOld st'.S S') && (!need.fix.contains i || freeCall H.free o || sameFix st'.env need.fx st'.S S')) then some (.normal, { st' with S := S' }.puts o.dst (leftA o v)) else none
    | some (.pan ch, S') => some (.pan ch, { st' with S := S' })
def evOpsD (H : Handler) (pol : Pol) (f : FuncId) (ops : Array Oper) (need : Need) (pl : List Tmp) : List Nat → St → Option (AExit × St)
 | [], st => some (.normal, { st with env := wipe st.env pl })
 | i :: rest, st => match evOne P H pol f ops need pl i st with
  | some (.normal, st') => evOpsD H pol f ops need pl rest st'
  | r => r
def maskD (pol : Pol) (f : FuncId) (ops : Array Oper) (env : List AV) : List AV :=
 env.mapIdx fun t v => if ops.toList.any (fun o => o.dst == some t) then .unk else if ops.toList.any (fun o => (consumed pol f o).contains t) then v.strip else v
def eqL {α : Type} (q : α → α → Bool) : List α → List α → Bool
 | [], [] => true
 | a :: as, b :: bs => q a b && eqL q as bs
 | _, _ => false
def sameObj : Obj → Obj → Bool
 | .cells a, .cells b => sameL a b
 | .arr e r, .arr e' r' => e == e' && sameR r r'
 | .map a, .map b => eqL (fun x y => AV.same x.1 y.1 && AV.same x.2 y.2) a b
 | .deferred, .deferred => true
 | _, _ => false
def samePan (a b : APan) : Bool := AV.same a.v b.v && a.recovered == b.recovered
def sameMode : AMode → AMode → Bool
 | .none, .none => true
 | .unk, .unk => true
 | .returning, .returning => true
 | .panicking a, .panicking b => eqL samePan a b
 | _, _ => false
def sameDef : ADef → ADef → Bool
 | ⟨.fn (.func f) c, a⟩, ⟨.fn (.func g) d, b⟩ => f == g && sameL c d && sameL a b
 | ⟨.coll i, a⟩, ⟨.coll j, b⟩ => i == j && sameL a b
 | _, _ => false
def sameSt (a b : St) : Bool :=
 sameL a.env b.env && eqL sameDef a.defs b.defs && sameMode a.par b.par && a.S.next == b.S.next && eqL (fun x y => x.1 == y.1 && sameObj x.2 y.2) a.S.heap b.S.heap
def evFan (H : Handler) (pol : Pol) (f : FuncId) (id : Nat) (ops : Array Oper) (ws : List (List Nat)) (st : St) : DT → List (Nat × Nat) → Option St
 | .leaf l, F => if drawAll H.free pol f id ops l ws F then match evOpsD P H pol f ops (pol.needs f id) (ops.toList.filterMap isPlaceOp) l st with
   | some (.normal, st') => some st'
   | _ => none
  else none
 | .node i j a b, F => if i < ops.size ∧ j < ops.size ∧ i ≠ j then match evFan H pol f id ops ws st a ((i, j) :: F) with
   | some s1 => match evFan H pol f id ops ws st b ((j, i) :: F) with
    | some s2 => if sameSt s1 s2 then some s1 else none
    | none => none
   | none => none
  else none
def evDraw (H : Handler) (pol : Pol) (f : FuncId) (id : Nat) (ops : Array Oper) (st : St) : Option (AExit × St) :=
 match pol.orders f id with
 | l :: ws =>
  match pol.fan f id with
  | none =>
   if drawAll H.free pol f id ops l ws [] && noBoxAt st.env (pol.wr f id) then
    match evOpsD P H pol f ops (pol.needs f id) (ops.toList.filterMap isPlaceOp) l st with
    | some (.pan ch, st') => if ops.toList.any (locA pol f) then none else some (.pan ch, { st' with env := maskD pol f ops st'.env })
    | r => r
   else none
  | some t => if noBoxAt st.env (pol.wr f id) then (evFan P H pol f id ops ws st t []).map fun s => (.normal, s) else none
 | _ => none
def evRange (H : Handler) (pol : Pol) (f : FuncId) (round : Option Nat) (g : Operand) (ps : Array Tmp) (as body : Code) (st : St) : Option (AExit × St) :=
  match opd st.env g with
  | .fn (.func g) first cap =>
   let S0 := st.S
   let (S1, defs, dn) : Sto × List ADef × Option Nat := match round with
    | none => (S0.new .deferred, ⟨.coll S0.next, []⟩ :: st.defs, some S0.next)
    | some l => (S0, st.defs, match S0.get l with | some (.loop r) => some r.defers | _ => none)
   match dn with
   | none => none
   | some dn =>
    let id := S1.next
    let S2 := S1.new (.loop { state := .ready, pending := none, fn := f, env := (st.masked (pol.keep f)).env.map AV.strip, params := ps.toList, assign := as, body := body, defers := dn })
    match H.call (.func g) (first ++ [.yld id] ++ cap) S2 with
    | none => none
    | some (.pan ch, S3) => some (.pan ch, { st with S := S3, defs })
    | some (.ret _, S3) => match S3.get id with
     | some (.loop r) =>
      if r.state = .busy then none else
      let st' := { st with S := S3.drop id, defs }
      match r.pending with
      | none => some (.normal, st')
      | some .ret => some (.ret, st')
      | some (.exit j) => some (.exit j, st')
      | some (.goto j) => some (.goto j, st')
      | some _ => none
     | _ => none
  | _ => none
def frzAt (S : Sto) (bid j : Nat) : Sto := match S.get bid with
 | some (.cells cs) => match cs[j]? with
  | some (.rsl id es 0 len) => match S.get id with
   | some (.arr es' rows) => if es' = es ∧ rows.length = len then (S.drop id).put bid (.cells (cs.set j (.sl false es rows))) else S
   | _ => S
  | _ => S
 | _ => S
def frzBox (S : Sto) (bid : Nat) : Nat → Sto
 | 0 => S
 | n + 1 => frzAt (frzBox S bid n) bid n
def frzOne (st : St) (n : Nat) (v : AV) : St := match v with
 | .ptr bid 0 => { st with S := frzBox st.S bid n }
 | _ => st
def frzSt (st : St) : List (Nat × Nat) → St
 | [] => st
 | (t, n) :: ts => frzSt (frzOne st n (st.env.getD t .undef)) ts
def proOne (st : St) (t : Nat) : St := match st.env.getD t .undef with
 | .box cs => { st with env := st.env.set t (.ptr st.S.next 0), S := st.S.new (.cells cs) }
 | _ => st
def proSt (st : St) : List Nat → St
 | [] => st
 | t :: ts => proSt (proOne st t) ts
def preSt (pol : Pol) (f : FuncId) (id : Nat) (st : St) : St := proSt (frzSt st (pol.fzr f id)) (pol.pro f id)
def evCode (H : Handler) (N : Nat) (pol : Pol) (f : FuncId) (round : Option Nat) : Code → St → Option (AExit × St)
 | .skip, st | .label _, st => some (.normal, st)
 | .region id ops draw, st =>
  if draw then evDraw P H pol f id ops (preSt pol f id st)
  else evOps P H pol f ops (ops.toList.filterMap isPlaceOp) (List.range ops.size) (preSt pol f id st)
 | .seq a b, st => match evCode H N pol f round a st with
  | some (.normal, st') => evCode H N pol f round b st'
  | r => r
 | .cond c a b, st => match opd st.env c with
  | .bool true => evCode H N pol f round a st
  | .bool false => evCode H N pol f round b st
  | _ => none
 | .block id c, st => match evCode H N pol f round c st with
  | some (.exit id', st') => if id' = id then some (.normal, st'.masked (pol.out f id)) else some (.exit id', st')
  | r => r
 | .loop c, st => loopN (pol.keep f) (evCode H N pol f round c) N st
 | .rangeFunc g ps as body, st => evRange H pol f round g ps as body st
 | .exit id, st => some (.exit id, st)
 | .goto l, st => some (.goto l, st)
 | .ret, st => some (.ret, st)
 | .scope c, st => match evCode H N pol f round c st with
  | some (.goto l, st') => match findLabel c l with
   | some rest => match H.code f round rest st' with
    | some (.goto l', st2) => if (findLabel c l').isSome then none else some (.goto l', st2)
    | r => r
   | none => some (.goto l, st')
  | r => r
 | .refuse _, _ => none
def settleA : AMode → AMode
 | .panicking (⟨_, true⟩ :: _) => .returning
 | m => m
def raisedA (m : AMode) (ch : List APan) : AMode :=
 match m with
 | .panicking old => .panicking (ch ++ old)
 | _ => .panicking ch
def unwindA (H : Handler) : List ADef → AMode → Sto → Option (AMode × Sto)
 | [], m, S => some (m, S)
 | ⟨.coll id, _⟩ :: ds, m, S => match S.get id with
  | some .deferred => unwindA H ds m (S.drop id)
  | _ => none
 | ⟨.fn (.func g) cap, args⟩ :: ds, m, S => match H.callD g (args ++ cap) m S with
  | some (.ret _, m', S') => unwindA H ds (settleA m') S'
  | some (.pan ch, m', S') => unwindA H ds (raisedA m' ch) S'
  | none => none
 | _ :: _, _, _ => none
def frzA (fz : Bool) (S : Sto) (v : AV) : AV × Sto :=
 match fz, v with
 | true, .rsl id es 0 len => match S.get id with
  | some (.arr es' rows) => if es' = es ∧ rows.length = len then (.sl false es rows, S.drop id) else (v, S)
  | _ => (v, S)
 | _, _ => (v, S)
def frzCells (S : Sto) : List AV → List AV × Sto
 | [] => ([], S)
 | v :: vs => ((frzA true S v).1 :: (frzCells (frzA true S v).2 vs).1, (frzCells (frzA true S v).2 vs).2)
def frzV (fz : Bool) (S : Sto) (v : AV) : AV × Sto :=
 match fz, v with
 | true, .agg cs => (.agg (frzCells S cs).1, (frzCells S cs).2)
 | fz, v => frzA fz S v
def resultA (fz : Bool) (env : List AV) (S : Sto) : ResultVar → Option (AV × List AV × Sto)
 | .tmp t => some ((frzV fz S (opt env (.tmp t))).1, stripAt env [t], (frzV fz S (opt env (.tmp t))).2)
 | .cell a t => match adr env (.tmp a) with
  | .ptr id off => match S.get id with
   | some (.cells cs) => (takeCells P t off cs).map fun (v, cs') => ((frzV fz (S.put id (.cells cs')) v).1, env, (frzV fz (S.put id (.cells cs')) v).2)
   | _ => none
  | .lptr s off => match env.getD s .undef with
   | .box cs => (takeCells P t off cs).map fun (v, cs') => ((frzV fz S v).1, env.set s (.box cs'), (frzV fz S v).2)
   | _ => none
  | _ => none
def resultsA (fz : Bool) : List ResultVar → List AV → Sto → Option (List AV × Sto)
 | [], _, S => some ([], S)
 | r :: rs, env, S => match resultA P fz env S r with
  | none => none
  | some (v, env', S') => match resultsA fz rs env' S' with
   | none => none
   | some (vs, S'') => some (v :: vs, S'')
def oneOf : List AV → AV
 | [v] => v
 | vs => .tup vs
def freeAt (env : List AV) : List Tmp → Sto → Sto
 | [], S => S
 | t :: ts, S => freeAt env ts (match env.getD t .undef with | .ptr id 0 => S.drop id | _ => S)
def runFn (H : Handler) (N : Nat) (pol : Pol) (f : FuncId) (par : AMode) (args : List AV) (S : Sto) : Option (AEnd × AMode × Sto) :=
 match P.funcs[f]? with
 | none => none
 | some fn => match fn.body with
  | none => none
  | some c =>
   match evCode P H N pol f none c { env := args ++ List.replicate (fn.ntmps - args.length) .undef, defs := [], par, S } with
   | some (x, st) =>
    let m : Option AMode := match x with
     | .normal | .ret => some .returning
     | .pan ch => some (.panicking ch)
     | _ => none
    match m with
    | none => none
    | some m => match unwindA H st.defs m st.S with
     | some (.returning, S') => match resultsA P (pol.frz f) fn.results.toList st.env S' with
      | some (vs, S'') => some (.ret (oneOf vs), st.par, freeAt st.env (pol.frees f) S'')
      | none => none
     | some (.panicking ch, S') => some (.pan ch, st.par, freeAt st.env (pol.frees f) S')
     | _ => none
   | none => none
def setAll : List AV → List Tmp → List AV → List AV
 | env, t :: ts, a :: as => setAll (env.set t a) ts as
 | env, _, _ => env
def runYield (H : Handler) (N : Nat) (pol : Pol) (id : Nat) (args : List AV) (S : Sto) : Option (AEnd × Sto) :=
 match S.get id with
 | some (.loop r) =>
  if args.length = r.params.length ∧ (P.funcs[r.fn]?).isSome = true then
   match evCode P H N pol r.fn (some id) r.assign { env := setAll r.env r.params (args.map AV.strip), defs := [], par := .unk, S } with
   | some (.normal, st) =>
    match st.S.get id with
    | some (.loop r1) =>
     if st.defs.isEmpty ∧ r1.state = .ready then
      match evCode P H N pol r.fn (some id) r.body { st with S := st.S.put id (.loop { r1 with state := .busy }) } with
      | some (x, st2) => match st2.S.get id with
       | some (.loop r2) =>
        if st2.defs.isEmpty = false then none else
        let fin (j : Option Code) : Option (AEnd × Sto) :=
         some (.ret (.bool j.isNone), st2.S.put id (.loop { r2 with state := if j.isNone then .ready else .done, pending := j }))
        match x with
        | .normal => fin none
        | .ret => fin (some .ret)
        | .exit j => fin (some (.exit j))
        | .goto j => fin (some (.goto j))
        | .pan ch => some (.pan ch, st2.S)
       | _ => none
      | none => none
     else none
    | _ => none
   | _ => none
  else none
 | _ => none
def handler (pol : Pol) : Nat → Handler
 | 0 => { free := pol.free, call := fun _ _ _ => none, callD := fun _ _ _ _ => none, code := fun _ _ _ _ => none }
 | n + 1 => {
   free := pol.free
   call := fun t args S => match t with
    | .func f =>
     if pol.free f then
      match args with
      | [] => match runFn P (handler pol n) n pol f .none [] { heap := [], next := 0 } with
       | some (.ret (.bool b), _, _) => some (.ret (.bool b), S)
       | _ => none
      | args => match runFn P (handler pol n) n pol f .none args { heap := [], next := S.next } with
       | some (.ret v, _, S1) => some (.ret v, { heap := S.heap, next := S1.next })
       | _ => none
     else (runFn P (handler pol n) n pol f .none args S).map fun (e, _, S') => (e, S')
    | .yield id => runYield P (handler pol n) n pol id args S
   callD := fun f args par S => runFn P (handler pol n) n pol f par args S
   code := fun f round c st => evCode P (handler pol n) n pol f round c st }
def evCall (pol : Pol) (n : Nat) (f : FuncId) (args : List AV) (S : Sto) : Option (AEnd × Sto) := (handler P pol n).call (.func f) args S
def isTrue : Option (AEnd × Sto) → Bool
 | some (.ret (.bool true), _) => true
 | _ => false
end P
end Go.Ab
namespace Go.Ab
mutual
theorem AV.same_eq : ∀ (a b : AV), AV.same a b = true → a = b
 | .unk, b, h => by cases b <;> simp [AV.same] at h; rfl
 | .bool a, b, h => by cases b <;> simp [AV.same] at h; simp [h]
 | .int k a, b, h => by cases b <;> simp [AV.same] at h; simp [h]
 | .str a, b, h => by cases b <;> simp [AV.same] at h; simp [h]
 | .nilptr, b, h => by cases b <;> simp [AV.same] at h; rfl
 | .ptr x y, b, h => by cases b <;> simp [AV.same] at h; simp [h]
 | .fptr x, b, h => by cases b <;> simp [AV.same] at h; rw [sameL_eq _ _ h]
 | .box x, b, h => by cases b <;> simp [AV.same] at h; rw [sameL_eq _ _ h]
 | .lptr x y, b, h => by cases b <;> simp [AV.same] at h; simp [h]
 | .nilsl, b, h => by cases b <;> simp [AV.same] at h; rfl
 | .sl o e r, b, h => by cases b <;> simp [AV.same] at h; rw [h.1.1, h.1.2, sameR_eq _ _ h.2]
 | .rsl x y z w, b, h => by cases b <;> simp [AV.same] at h; simp [h]
 | .csl x y z w, b, h => by cases b <;> simp [AV.same] at h; simp [h]
 | .aptr x y z, b, h => by cases b <;> simp [AV.same] at h; simp [h]
 | .nilmap, b, h => by cases b <;> simp [AV.same] at h; rfl
 | .map x, b, h => by cases b <;> simp [AV.same] at h; simp [h]
 | .nilfn, b, h => by cases b <;> simp [AV.same] at h; rfl
 | .fn f x y, b, h => by
  cases b <;> try (cases f <;> simp [AV.same] at h; done)
  rename_i g x' y'
  cases f <;> cases g <;> simp [AV.same] at h
  rw [h.1.1, sameL_eq _ _ h.1.2, sameL_eq _ _ h.2]
 | .yld x, b, h => by cases b <;> simp [AV.same] at h; simp [h]
 | .niliface, b, h => by cases b <;> simp [AV.same] at h; rfl
 | .iface t v, b, h => by cases b <;> simp [AV.same] at h; rw [h.1, AV.same_eq _ _ h.2]
 | .agg x, b, h => by cases b <;> simp [AV.same] at h; rw [sameL_eq _ _ h]
 | .tup x, b, h => by cases b <;> simp [AV.same] at h; rw [sameL_eq _ _ h]
theorem sameL_eq : ∀ (a b : List AV), sameL a b = true → a = b
 | [], b, h => by cases b <;> simp [sameL] at h; rfl
 | a :: as, b, h => by cases b <;> simp [sameL] at h; rw [AV.same_eq _ _ h.1, sameL_eq _ _ h.2]
theorem sameR_eq : ∀ (a b : List (List AV)), sameR a b = true → a = b
 | [], b, h => by cases b <;> simp [sameR] at h; rfl
 | a :: as, b, h => by cases b <;> simp [sameR] at h; rw [sameL_eq _ _ h.1, sameR_eq _ _ h.2]
end
theorem eqL_eq {α : Type} {q : α → α → Bool} (hq : ∀ a b, q a b = true → a = b) : ∀ (a b : List α), eqL q a b = true → a = b
 | [], b, h => by cases b <;> simp [eqL] at h; rfl
 | a :: as, b, h => by cases b <;> simp [eqL] at h; rw [hq _ _ h.1, eqL_eq hq _ _ h.2]
theorem sameObj_eq (a b : Obj) (h : sameObj a b = true) : a = b := by
 cases a <;> cases b <;> simp [sameObj] at h
 ·rw [sameL_eq _ _ h]
 ·rw [h.1, sameR_eq _ _ h.2]
 ·rename_i x y
  rw [eqL_eq (fun p q hpq => by
   simp only [Bool.and_eq_true] at hpq
   exact Prod.ext (AV.same_eq _ _ hpq.1) (AV.same_eq _ _ hpq.2)) _ _ h]
 ·rfl
theorem samePan_eq (a b : APan) (h : samePan a b = true) : a = b := by
 obtain ⟨v, r⟩ := a
 obtain ⟨v', r'⟩ := b
 simp only [samePan, Bool.and_eq_true, beq_iff_eq] at h
 rw [AV.same_eq _ _ h.1, h.2]
theorem sameMode_eq (a b : AMode) (h : sameMode a b = true) : a = b := by
 cases a <;> cases b <;> simp [sameMode] at h <;> first | rfl | rw [eqL_eq samePan_eq _ _ h]
theorem sameDef_eq (a b : ADef) (h : sameDef a b = true) : a = b := by
 obtain ⟨t, x⟩ := a
 obtain ⟨t', x'⟩ := b
 cases t with
 | fn f c =>
  cases t' with
  | fn g d =>
   cases f <;> cases g <;> simp [sameDef] at h
   rw [h.1.1, sameL_eq _ _ h.1.2, sameL_eq _ _ h.2]
  | coll j => cases f <;> simp [sameDef] at h
 | coll i =>
  cases t' with
  | fn g d => simp [sameDef] at h
  | coll j => simp [sameDef] at h; rw [h.1, sameL_eq _ _ h.2]
theorem sameSt_eq {a b : St} (h : sameSt a b = true) : a = b := by
 obtain ⟨e, d, p, s, n⟩ := a
 obtain ⟨e', d', p', s', n'⟩ := b
 simp only [sameSt, Bool.and_eq_true, beq_iff_eq] at h
 obtain ⟨⟨⟨⟨h1, h2⟩, h3⟩, h4⟩, h5⟩ := h
 rw [sameL_eq _ _ h1, eqL_eq sameDef_eq _ _ h2, sameMode_eq _ _ h3, h4, eqL_eq (fun x y hxy => by
  simp only [Bool.and_eq_true, beq_iff_eq] at hxy
  exact Prod.ext hxy.1 (sameObj_eq _ _ hxy.2)) _ _ h5]
end Go.Ab
namespace Go.Ab
def froz : List Nat := [0]
structure Ctx where
 w : World
 L : Nat → Nat → List Nat
 φ : Nat → Nat
 ψ : Nat → Nat
 σ : Nat → Nat
 κ : Nat → Nat
 n : Nat
 β : Nat → Nat → Nat
 base : Nat
def flat : Value → Prop
 | .agg _ | .tuple _ => False
 | _ => True
def isLp : AV → Bool
 | .lptr _ _ => true
 | _ => false
def isBx : AV → Bool
 | .box _ => true
 | _ => false
def isPl (v : AV) : Bool := isLp v || isBx v
def sub (p : Option (List Nat)) (i : Nat) : Option (List Nat) := p.map (· ++ [i])
def FrOK (fr : Nat × Nat) (size : Nat) : Prop := fr.1 = fr.2 ∨ size ≤ fr.1
def Spare (C : Ctx) (b lo hi : Nat) (q : List Nat) : Prop :=
 (lo < hi → ∃ cs e fr, C.w.heap[b]? = some (.cells cs e fr) ∧ hi ≤ cs.size ∧ FrOK fr cs.size) ∧ ∀ o, lo ≤ o → o < hi → C.L b o = q
def OKB (C : Ctx) (b : Nat) : Prop := ∃ cs e fr, C.w.heap[b]? = some (.cells cs e fr) ∧ FrOK fr cs.size
mutual
def VRel (C : Ctx) : AV → Option (List Nat) → Value → Prop
 | .unk, _, _ => True
 | .bool b, _, c => c = .bool b
 | .int k n, _, c => c = .int k n
 | .str s, _, c => ∃ b : ByteArray, c = .string b ∧ b.data.toList = s
 | .nilptr, _, c => c = .pointer none
 | .ptr id off, _, c => c = .pointer (some ⟨C.φ id, off, none⟩) ∧ id < C.n
 | .fptr cells, _, c => ∃ b o, c = .pointer (some ⟨b, o, none⟩) ∧ CellsRel C cells b o
 | .box cells, p, c => ∃ d t, p = some [d + 2, t] ∧ c = .pointer (some ⟨C.β d t, 0, none⟩) ∧ BoxRel C cells (C.β d t) [d + 2, t] 0
 | .lptr s off, p, c => ∃ d r, p = some ((d + 2) :: r) ∧ c = .pointer (some ⟨C.β d s, off, none⟩)
 | .nilsl, _, c => c = .slice none 0 0
 | .sl own es rows, p, c => ∃ b o cap, ∃ s : Option Nat, c = .slice (some ⟨b, o, s⟩) rows.length cap ∧ rows.length ≤ cap ∧ 1 ≤ es ∧ RowsRel C rows b o es ∧
   (own = true → ∃ q, p = some q ∧ Spare C b (o + rows.length * es) (o + cap * es) q ∧ (rows ≠ [] → C.base ≤ b)) ∧ (s = none ∨ cap = 0)
 | .rsl id es off len, _, c => ∃ b o cap, c = .slice (some ⟨b, o, none⟩) len cap ∧ len ≤ cap ∧ off + cap = C.κ id ∧ id < C.n ∧ C.σ id = es ∧
   (cap = 0 ∨ (b = C.φ id ∧ o = C.ψ id + off * C.σ id))
 | .csl id es off len, _, c => ∃ b o, c = .slice (some ⟨b, o, none⟩) len len ∧ off + len ≤ C.κ id ∧ id < C.n ∧ C.σ id = es ∧
   (len = 0 ∨ (b = C.φ id ∧ o = C.ψ id + off * C.σ id))
 | .aptr id r off, _, c => c = .pointer (some ⟨C.φ id, C.ψ id + r * C.σ id + off, none⟩) ∧ id < C.n
 | .nilmap, _, c => c = .map none
 | .map id, _, c => c = .map (some (C.φ id)) ∧ id < C.n
 | .nilfn, _, c => c = .nilFunc
 | .fn f a b, _, c => ∃ a' b' : List Value, c = .func f a'.toArray b'.toArray ∧ (∀ l, f ≠ .yield l) ∧ ListRel C a none 0 a' ∧ ListRel C b none 0 b'
 | .yld id, _, c => c = .func (.yield (C.φ id)) #[] #[] ∧ id < C.n
 | .niliface, _, c => c = .nilIface
 | .iface t v, _, c => ∃ v', c = .iface t v' ∧ VRel C v none v'
 | .agg cs, p, c => ∃ cs' : List Value, c = .agg cs'.toArray ∧ (∀ x ∈ cs', flat x) ∧ ListRel C cs p 0 cs'
 | .tup vs, p, c => ∃ vs' : List Value, c = .tuple vs'.toArray ∧ ListRel C vs p 0 vs'
def CellsRel (C : Ctx) : List AV → Nat → Nat → Prop
 | [], _, _ => True
 | v :: vs, b, o => (∃ c, C.w.cell? ⟨b, o, none⟩ = some c ∧ C.L b o = froz ∧ flat c ∧ VRel C v none c) ∧ CellsRel C vs b (o + 1)
def RowsRel (C : Ctx) : List (List AV) → Nat → Nat → Nat → Prop
 | [], _, _, _ => True
 | r :: rs, b, o, es => r.length = es ∧ CellsRel C r b o ∧ RowsRel C rs b (o + es) es
def BoxRel (C : Ctx) : List AV → Nat → List Nat → Nat → Prop
 | [], _, _, _ => True
 | v :: vs, b, q, j => (∃ c, C.w.cell? ⟨b, j, none⟩ = some c ∧ OKB C b ∧ C.L b j = q ++ [0] ∧ flat c ∧ isPl v = false ∧ VRel C v (some (q ++ [j + 1])) c) ∧ BoxRel C vs b q (j + 1)
def ListRel (C : Ctx) : List AV → Option (List Nat) → Nat → List Value → Prop
 | [], _, _, cs => cs = []
 | v :: vs, p, i, cs => ∃ c cs', cs = c :: cs' ∧ isPl v = false ∧ VRel C v (sub p i) c ∧ ListRel C vs p (i + 1) cs'
end
def ArrRow (C : Ctx) (q : List Nat) : List AV → Nat → Nat → Prop
 | [], _, _ => True
 | v :: vs, b, o => (∃ c, C.w.cell? ⟨b, o, none⟩ = some c ∧ OKB C b ∧ C.L b o = q ∧ flat c ∧ VRel C v none c) ∧ ArrRow C q vs b (o + 1)
def ArrRel (C : Ctx) (q : List Nat) : List (List AV) → Nat → Nat → Nat → Prop
 | [], _, _, _ => True
 | r :: rs, b, o, es => r.length = es ∧ ArrRow C q r b o ∧ ArrRel C q rs b (o + es) es
def MapRel (C : Ctx) : List (AV × AV) → List MapEntry → Prop
 | [], [] => True
 | (k, v) :: es, e :: ces => VRel C k none e.key ∧ VRel C v none e.val ∧ MapRel C es ces
 | _, _ => False
def ObjRel (C : Ctx) (id : Nat) : Obj → Prop
 | .cells cs => BoxRel C cs (C.φ id) [1, id] 0
 | .arr es rows => 1 ≤ es ∧ C.σ id = es ∧ rows.length ≤ C.κ id ∧ ArrRel C [1, id, 0] rows (C.φ id) (C.ψ id) es ∧
   Spare C (C.φ id) (C.ψ id + rows.length * es) (C.ψ id + C.κ id * es) [1, id, 0]
 | .map es => (∃ ces clock, C.w.heap[C.φ id]? = some (.map ces clock) ∧ MapRel C es ces.toList) ∧ (∀ o, C.L (C.φ id) o = [1, id, 0])
 | .loop l => ∃ lp : Loop, C.w.heap[C.φ id]? = some (.loop lp) ∧ (∀ o, C.L (C.φ id) o = [1, id, 0]) ∧ lp.state = l.state ∧ lp.pending = l.pending ∧ lp.fn = l.fn ∧
   lp.params.toList = l.params ∧ lp.assign = l.assign ∧ lp.body = l.body ∧ ListRel C l.env none 0 lp.tmps.toList ∧ lp.defers = C.φ l.defers ∧ l.defers < C.n
 | .deferred => C.w.heap[C.φ id]? = some (.deferred (some [])) ∧ (∀ o, C.L (C.φ id) o = [1, id, 0])
 | .siter s pos => C.w.heap[C.φ id]? = some (.stringIter s pos) ∧ (∀ o, C.L (C.φ id) o = [1, id, 0])
def BaseOK (C : Ctx) : Prop := C.base ≤ C.w.heap.size ∧ ∀ b o, b < C.base → C.L b o = froz
structure HeapRel (C : Ctx) (S : Sto) : Prop where
 n : C.n = S.next
 nodup : (S.heap.map (·.1)).Nodup
 obj : ∀ id o, (id, o) ∈ S.heap → id < S.next ∧ ObjRel C id o
 fresh : ∀ b o, C.w.heap.size ≤ b → C.L b o = []
 base : BaseOK C
def EnvRel (C : Ctx) (d : Nat) (env : List AV) (tmps : Array Value) : Prop :=
 env.length = tmps.size ∧ ∀ (t : Nat) v, env[t]? = some v → ∃ c, tmps[t]? = some c ∧ VRel C v (some [d + 2, t]) c
def isCellsO : Go.Obj → Bool
 | .cells .. => true
 | _ => false
def Same (w w' : World) (b o : Nat) : Prop :=
 w'.cell? ⟨b, o, none⟩ = w.cell? ⟨b, o, none⟩ ∧ ∀ x, w.heap[b]? = some x → isCellsO x = false → w'.heap[b]? = some x
structure Old (C C' : Ctx) : Prop where
 base : C'.base = C.base
 size : C.w.heap.size ≤ C'.w.heap.size
 os : C'.w.os = C.w.os
 tape : C'.w.tape = C.w.tape
 output : C'.w.output = C.w.output
 fr : ∀ (b : Nat) cs e fr, b < C.base → C.w.heap[b]? = some (.cells cs e fr) → ∃ cs', C'.w.heap[b]? = some (.cells cs' e fr)
theorem Old.refl (C : Ctx) : Old C C := ⟨rfl, Nat.le_refl _, rfl, rfl, rfl, fun _ cs _ _ _ h => ⟨cs, h⟩⟩
theorem Old.trans {C C' C'' : Ctx} (h : Old C C') (h' : Old C' C'') : Old C C'' :=
 ⟨h'.base.trans h.base, Nat.le_trans h.size h'.size, h'.os.trans h.os, h'.tape.trans h.tape, h'.output.trans h.output, fun b cs e fr hb hc => by
  obtain ⟨cs', h1⟩ := h.fr b cs e fr hb hc
  exact h'.fr b cs' e fr (by rw [h.base]; exact hb) h1⟩
structure Ext (X : List Nat → Prop) (C C' : Ctx) : Prop where
 n : C.n ≤ C'.n
 ids : ∀ id, id < C.n → C'.φ id = C.φ id ∧ C'.ψ id = C.ψ id ∧ C'.σ id = C.σ id ∧ C'.κ id = C.κ id
 fr : ∀ b o, C.L b o = froz → C'.L b o = froz ∧ Same C.w C'.w b o
 keep : ∀ b o, C.L b o ≠ [] → ¬ X (C.L b o) → C'.L b o = C.L b o ∧ Same C.w C'.w b o
 β : ∀ d s, ¬ X [d + 2, s] → C'.β d s = C.β d s
 shape : ∀ (b : Nat) cs e fr, C.w.heap[b]? = some (.cells cs e fr) → ∃ cs' fr', C'.w.heap[b]? = some (.cells cs' e fr') ∧ cs'.size = cs.size ∧ (FrOK fr cs.size → FrOK fr' cs.size)
 old : Old C C'
theorem Same.refl (w : World) (b o : Nat) : Same w w b o := ⟨rfl, fun _ h _ => h⟩
theorem Same.trans {w w' w'' : World} {b o : Nat} (h : Same w w' b o) (h' : Same w' w'' b o) : Same w w'' b o :=
 ⟨h'.1.trans h.1, fun x hx hc => h'.2 x (h.2 x hx hc) hc⟩
theorem Ext.refl (X : List Nat → Prop) (C : Ctx) : Ext X C C :=
 ⟨Nat.le_refl _, fun _ _ => ⟨rfl, rfl, rfl, rfl⟩, fun _ _ h => ⟨h, Same.refl _ _ _⟩, fun _ _ _ _ => ⟨rfl, Same.refl _ _ _⟩, fun _ _ _ => rfl, fun _ cs _ fr h => ⟨cs, fr, h, rfl, id⟩, Old.refl C⟩
theorem Ext.trans {X : List Nat → Prop} {C C' C'' : Ctx} (h : Ext X C C') (h' : Ext X C' C'') : Ext X C C'' where
 n := Nat.le_trans h.n h'.n
 ids := fun id hid => by
  obtain ⟨a, b, c, e⟩ := h.ids id hid
  obtain ⟨a', b', c', e'⟩ := h'.ids id (Nat.lt_of_lt_of_le hid h.n)
  exact ⟨a'.trans a, b'.trans b, c'.trans c, e'.trans e⟩
 fr := fun b o hl => let ⟨a, s⟩ := h.fr b o hl; let ⟨a', s'⟩ := h'.fr b o a; ⟨a', s.trans s'⟩
 keep := fun b o hne hx => by
  obtain ⟨a, s⟩ := h.keep b o hne hx
  obtain ⟨a', s'⟩ := h'.keep b o (by rw [a]; exact hne) (by rw [a]; exact hx)
  exact ⟨a'.trans a, s.trans s'⟩
 β := fun d s hx => (h'.β d s hx).trans (h.β d s hx)
 shape := fun b cs e fr hb => by
  obtain ⟨cs', fr', h1, h2, h3⟩ := h.shape b cs e fr hb
  obtain ⟨cs'', fr'', h4, h5, h6⟩ := h'.shape b cs' e fr' h1
  exact ⟨cs'', fr'', h4, h5.trans h2, fun hf => by have := h6 (by rw [h2]; exact h3 hf); rwa [h2] at this⟩
 old := h.old.trans h'.old
theorem Ext.weaken {X Y : List Nat → Prop} {C C' : Ctx} (h : Ext X C C') (hxy : ∀ l, X l → Y l) : Ext Y C C' :=
 ⟨h.n, h.ids, h.fr, fun b o hne hy => h.keep b o hne (fun hx => hy (hxy _ hx)), fun d s hy => h.β d s (fun hx => hy (hxy _ hx)), h.shape, h.old⟩
theorem BaseOK.mono {X : List Nat → Prop} {C C' : Ctx} (h : Ext X C C') (hb : BaseOK C) : BaseOK C' :=
 ⟨by rw [h.old.base]; exact Nat.le_trans hb.1 h.old.size, fun b o hl => (h.fr b o (hb.2 b o (by rw [← h.old.base]; exact hl))).1⟩
theorem BaseOK.of_label {C : Ctx} (hb : BaseOK C) {b o : Nat} (h : C.L b o ≠ froz) : C.base ≤ b := Nat.le_of_not_lt fun hlt => h (hb.2 b o hlt)
theorem isPl_lp {v : AV} (h : isPl v = false) : isLp v = false := by cases v <;> simp_all [isPl, isLp, isBx]
theorem isPl_bx {v : AV} (h : isPl v = false) : isBx v = false := by cases v <;> simp_all [isPl, isLp, isBx]
def Off (X : List Nat → Prop) (p : Option (List Nat)) : Prop := ∀ q, p = some q → q ≠ [] ∧ q ≠ froz ∧ ∀ r, ¬ X (q ++ r)
theorem Off.none (X : List Nat → Prop) : Off X none := fun _ h => by cases h
theorem Off.sub {X : List Nat → Prop} {p : Option (List Nat)} (h : Off X p) (i : Nat) : Off X (sub p i) := by
 intro q hq
 cases p with
 | none => simp [Ab.sub] at hq
 | some p =>
  simp only [Ab.sub, Option.map_some, Option.some.injEq] at hq
  obtain ⟨h1, h2, h3⟩ := h p rfl
  subst hq
  refine ⟨by simp, ?_, fun r => by have := h3 ([i] ++ r); simpa using this⟩
  intro hf
  cases p with
  | nil => exact h1 rfl
  | cons a l => cases l <;> simp [froz] at hf
theorem Spare.mono {X : List Nat → Prop} {C C' : Ctx} (h : Ext X C C') {b lo hi : Nat} {q : List Nat} (hs : Spare C b lo hi q) (hq : q ≠ [] ∧ q ≠ froz ∧ ∀ r, ¬ X (q ++ r)) : Spare C' b lo hi q := by
 refine ⟨fun hlt => ?_, fun o h1 h2 => ?_⟩
 ·obtain ⟨cs, e, fr, hb, hc, hf⟩ := hs.1 hlt
  obtain ⟨cs', fr', h1, h2, h3⟩ := h.shape b cs e fr hb
  exact ⟨cs', e, fr', h1, by omega, by rw [h2]; exact h3 hf⟩
 ·have a := hs.2 o h1 h2
  exact (h.keep b o (by rw [a]; exact hq.1) (by rw [a]; have := hq.2.2 []; simpa using this)).1.trans a
theorem OKB.mono {X : List Nat → Prop} {C C' : Ctx} (h : Ext X C C') {b : Nat} (hb : OKB C b) : OKB C' b := by
 obtain ⟨cs, e, fr, h1, h2⟩ := hb
 obtain ⟨cs', fr', h3, h4, h5⟩ := h.shape b cs e fr h1
 exact ⟨cs', e, fr', h3, by rw [h4]; exact h5 h2⟩
theorem OKB.nf {C : Ctx} {b o : Nat} (h : OKB C b) (hc : (C.w.cell? ⟨b, o, none⟩).isSome = true) : C.w.frozen? ⟨b, o, none⟩ = false := by
 obtain ⟨cs, e, ⟨lo, hi⟩, h1, h2⟩ := h
 simp only [World.cell?, h1] at hc
 simp only [World.frozen?, h1]
 simp at hc
 rcases h2 with h2 | h2 <;> simp at h2 ⊢ <;> omega
mutual
theorem VRel.mono {X : List Nat → Prop} {C C' : Ctx} (h : Ext X C C') : ∀ (v : AV) (p : Option (List Nat)) (c : Value), Off X p → isLp v = false → VRel C v p c → VRel C' v p c
 | .unk, _, _, _, _, _ => by simp [VRel]
 | .bool _, _, _, _, _, r => by simpa only [VRel] using r
 | .int _ _, _, _, _, _, r => by simpa only [VRel] using r
 | .str _, _, _, _, _, r => by simpa only [VRel] using r
 | .nilptr, _, _, _, _, r => by simpa only [VRel] using r
 | .ptr id off, _, _, _, _, r => by
  simp only [VRel] at r ⊢
  obtain ⟨r, hn⟩ := r
  rw [(h.ids id hn).1]; exact ⟨r, Nat.lt_of_lt_of_le hn h.n⟩
 | .fptr cells, _, _, _, _, r => by
  simp only [VRel] at r ⊢
  obtain ⟨b, o, hc, hr⟩ := r
  exact ⟨b, o, hc, CellsRel.mono h cells b o hr⟩
 | .box cells, p, _, hp, _, r => by
  simp only [VRel] at r ⊢
  obtain ⟨d, t, rfl, hc, hr⟩ := r
  have hx : ¬ X [d + 2, t] := by have := (hp _ rfl).2.2 []; simpa using this
  refine ⟨d, t, rfl, by rw [h.β d t hx]; exact hc, ?_⟩
  rw [h.β d t hx]
  exact BoxRel.mono h cells _ _ _ hp hr
 | .lptr _ _, _, _, _, hl, _ => by simp [isLp] at hl
 | .nilsl, _, _, _, _, r => by simpa only [VRel] using r
 | .sl own es rows, p, _, hp, _, r => by
  simp only [VRel] at r ⊢
  obtain ⟨b, o, cap, s, hc, hl, he, hr, ho, hs0⟩ := r
  refine ⟨b, o, cap, s, hc, hl, he, RowsRel.mono h rows b o es hr, fun hown => ?_, hs0⟩
  obtain ⟨q, rfl, hs, hb⟩ := ho hown
  exact ⟨q, rfl, hs.mono h (hp q rfl), fun hn => by rw [h.old.base]; exact hb hn⟩
 | .rsl id es off len, _, _, _, _, r => by
  simp only [VRel] at r ⊢
  obtain ⟨b, o, cap, hc, hl, hk, hn, hs, ha⟩ := r
  obtain ⟨e1, e2, e3, e4⟩ := h.ids id hn
  exact ⟨b, o, cap, hc, hl, by rw [e4]; exact hk, Nat.lt_of_lt_of_le hn h.n, e3.trans hs, by rw [e1, e2, e3]; exact ha⟩
 | .csl id es off len, _, _, _, _, r => by
  simp only [VRel] at r ⊢
  obtain ⟨b, o, hc, hk, hn, hs, ha⟩ := r
  obtain ⟨e1, e2, e3, e4⟩ := h.ids id hn
  exact ⟨b, o, hc, by rw [e4]; exact hk, Nat.lt_of_lt_of_le hn h.n, e3.trans hs, by rw [e1, e2, e3]; exact ha⟩
 | .aptr id r off, _, _, _, _, hr => by
  simp only [VRel] at hr ⊢
  obtain ⟨hc, hn⟩ := hr
  obtain ⟨e1, e2, e3, e4⟩ := h.ids id hn
  rw [e1, e2, e3]; exact ⟨hc, Nat.lt_of_lt_of_le hn h.n⟩
 | .nilmap, _, _, _, _, r => by simpa only [VRel] using r
 | .map id, _, _, _, _, r => by
  simp only [VRel] at r ⊢
  obtain ⟨r, hn⟩ := r
  rw [(h.ids id hn).1]; exact ⟨r, Nat.lt_of_lt_of_le hn h.n⟩
 | .nilfn, _, _, _, _, r => by simpa only [VRel] using r
 | .fn f a b, _, _, _, _, r => by
  simp only [VRel] at r ⊢
  obtain ⟨a', b', hc, hf, ha, hb⟩ := r
  exact ⟨a', b', hc, hf, ListRel.mono h a none 0 a' (Off.none X) ha, ListRel.mono h b none 0 b' (Off.none X) hb⟩
 | .yld id, _, _, _, _, r => by
  simp only [VRel] at r ⊢
  obtain ⟨r, hn⟩ := r
  rw [(h.ids id hn).1]; exact ⟨r, Nat.lt_of_lt_of_le hn h.n⟩
 | .niliface, _, _, _, _, r => by simpa only [VRel] using r
 | .iface t v, _, _, _, _, r => by
  simp only [VRel] at r ⊢
  obtain ⟨v', hc, hv⟩ := r
  by_cases hl : isLp v = true
  ·cases v <;> simp [isLp] at hl
   simp [VRel] at hv
  ·exact ⟨v', hc, VRel.mono h v none v' (Off.none X) (by simpa using hl) hv⟩
 | .agg cs, p, _, hp, _, r => by
  simp only [VRel] at r ⊢
  obtain ⟨cs', hc, hf, hr⟩ := r
  exact ⟨cs', hc, hf, ListRel.mono h cs p 0 cs' hp hr⟩
 | .tup vs, p, _, hp, _, r => by
  simp only [VRel] at r ⊢
  obtain ⟨cs', hc, hr⟩ := r
  exact ⟨cs', hc, ListRel.mono h vs p 0 cs' hp hr⟩
theorem CellsRel.mono {X : List Nat → Prop} {C C' : Ctx} (h : Ext X C C') : ∀ (cs : List AV) (b o : Nat), CellsRel C cs b o → CellsRel C' cs b o
 | [], _, _, _ => by simp [CellsRel]
 | v :: vs, b, o, r => by
  simp only [CellsRel] at r ⊢
  obtain ⟨⟨c, h1, h2, h3, h4⟩, hr⟩ := r
  have hk := h.fr b o h2
  refine ⟨⟨c, hk.2.1.trans h1, hk.1, h3, ?_⟩, CellsRel.mono h vs b (o + 1) hr⟩
  by_cases hl : isLp v = true
  ·cases v <;> simp [isLp] at hl
   simp [VRel] at h4
  ·exact VRel.mono h v none c (Off.none X) (by simpa using hl) h4
theorem RowsRel.mono {X : List Nat → Prop} {C C' : Ctx} (h : Ext X C C') : ∀ (rs : List (List AV)) (b o es : Nat), RowsRel C rs b o es → RowsRel C' rs b o es
 | [], _, _, _, _ => by simp [RowsRel]
 | r :: rs, b, o, es, hr => by
  simp only [RowsRel] at hr ⊢
  exact ⟨hr.1, CellsRel.mono h r b o hr.2.1, RowsRel.mono h rs b (o + es) es hr.2.2⟩
theorem BoxRel.mono {X : List Nat → Prop} {C C' : Ctx} (h : Ext X C C') : ∀ (cs : List AV) (b : Nat) (q : List Nat) (j : Nat), Off X (some q) → BoxRel C cs b q j → BoxRel C' cs b q j
 | [], _, _, _, _, _ => by simp [BoxRel]
 | v :: vs, b, q, j, hq, r => by
  simp only [BoxRel] at r ⊢
  obtain ⟨⟨c, h1, h2, h3, h4, h5, h6⟩, hr⟩ := r
  have hk := h.keep b j (by rw [h3]; simp) (by rw [h3]; exact (hq q rfl).2.2 [0])
  have hp : Off X (some (q ++ [j + 1])) := Off.sub hq (j + 1)
  exact ⟨⟨c, hk.2.1.trans h1, h2.mono h, hk.1.trans h3, h4, h5, VRel.mono h v _ c hp (isPl_lp h5) h6⟩, BoxRel.mono h vs b q (j + 1) hq hr⟩
theorem ListRel.mono {X : List Nat → Prop} {C C' : Ctx} (h : Ext X C C') : ∀ (vs : List AV) (p : Option (List Nat)) (i : Nat) (cs : List Value), Off X p → ListRel C vs p i cs → ListRel C' vs p i cs
 | [], _, _, _, _, r => by simpa only [ListRel] using r
 | v :: vs, p, i, cs, hp, r => by
  simp only [ListRel] at r ⊢
  obtain ⟨c, cs', hc, hl, hv, hr⟩ := r
  exact ⟨c, cs', hc, hl, VRel.mono h v _ c (hp.sub i) (isPl_lp hl) hv, ListRel.mono h vs p (i + 1) cs' hp hr⟩
end
theorem VRel.strip0 {C : Ctx} {v : AV} {p : Option (List Nat)} {c : Value} (h : VRel C v p c) (p' : Option (List Nat)) : VRel C v.strip0 p' c ∧ isPl v.strip0 = false := by
 cases v <;> simp only [AV.strip0, VRel, isPl, isLp, isBx, Bool.or_self, and_true] at h ⊢ <;> try exact h
 obtain ⟨b, o, cap, s, hc, hl, he, hr, _, hs0⟩ := h
 exact ⟨b, o, cap, s, hc, hl, he, hr, (fun h => by cases h), hs0⟩
theorem ListRel.strip0 {C : Ctx} : ∀ {vs : List AV} {p : Option (List Nat)} {i : Nat} {cs : List Value}, ListRel C vs p i cs → ∀ (p' : Option (List Nat)) (j : Nat), ListRel C (vs.map AV.strip0) p' j cs
 | [], _, _, _, h, _, _ => by simpa only [ListRel, List.map_nil] using h
 | v :: vs, p, i, cs, h, p', j => by
  simp only [ListRel, List.map_cons] at h ⊢
  obtain ⟨c, cs', hc, _, hv, hr⟩ := h
  exact ⟨c, cs', hc, (hv.strip0 (sub p' j)).2, (hv.strip0 (sub p' j)).1, hr.strip0 p' (j + 1)⟩
theorem VRel.strip1 {C : Ctx} {v : AV} {p : Option (List Nat)} {c : Value} (h : VRel C v p c) (p' : Option (List Nat)) : VRel C v.strip1 p' c ∧ isPl v.strip1 = false := by
 cases v
 case agg cs =>
  simp only [AV.strip1, VRel, isPl, isLp, isBx, Bool.or_self, and_true] at h ⊢
  obtain ⟨cs', hc, hf, hr⟩ := h
  exact ⟨cs', hc, hf, hr.strip0 p' 0⟩
 all_goals exact h.strip0 p'
theorem ListRel.strip1 {C : Ctx} : ∀ {vs : List AV} {p : Option (List Nat)} {i : Nat} {cs : List Value}, ListRel C vs p i cs → ∀ (p' : Option (List Nat)) (j : Nat), ListRel C (vs.map AV.strip1) p' j cs
 | [], _, _, _, h, _, _ => by simpa only [ListRel, List.map_nil] using h
 | v :: vs, p, i, cs, h, p', j => by
  simp only [ListRel, List.map_cons] at h ⊢
  obtain ⟨c, cs', hc, _, hv, hr⟩ := h
  exact ⟨c, cs', hc, (hv.strip1 (sub p' j)).2, (hv.strip1 (sub p' j)).1, hr.strip1 p' (j + 1)⟩
theorem VRel.strip {C : Ctx} {v : AV} {p : Option (List Nat)} {c : Value} (h : VRel C v p c) (p' : Option (List Nat)) : VRel C v.strip p' c ∧ isPl v.strip = false := by
 cases v
 case tup vs =>
  simp only [AV.strip, VRel, isPl, isLp, isBx, Bool.or_self, and_true] at h ⊢
  obtain ⟨cs', hc, hr⟩ := h
  exact ⟨cs', hc, hr.strip1 p' 0⟩
 all_goals exact h.strip1 p'
theorem VRel.none_lp {C : Ctx} {v : AV} {c : Value} (h : VRel C v none c) : isPl v = false := by
 cases v <;> simp [isPl, isLp, isBx] <;> simp [VRel] at h
mutual
theorem VRel.any {C : Ctx} : ∀ (v : AV) (p : Option (List Nat)) (c : Value), VRel C v none c → VRel C v p c
 | .unk, _, _, _ => by simp [VRel]
 | .bool _, _, _, r => by simpa only [VRel] using r
 | .int _ _, _, _, r => by simpa only [VRel] using r
 | .str _, _, _, r => by simpa only [VRel] using r
 | .nilptr, _, _, r => by simpa only [VRel] using r
 | .ptr _ _, _, _, r => by simpa only [VRel] using r
 | .fptr _, _, _, r => by simpa only [VRel] using r
 | .box _, _, _, r => by simp [VRel] at r
 | .lptr _ _, _, _, r => by simp [VRel] at r
 | .nilsl, _, _, r => by simpa only [VRel] using r
 | .sl own es rows, p, _, r => by
  simp only [VRel] at r ⊢
  obtain ⟨b, o, cap, s, hc, hl, he, hr, ho, hs0⟩ := r
  exact ⟨b, o, cap, s, hc, hl, he, hr, (fun hown => by obtain ⟨q, hq, _⟩ := ho hown; cases hq), hs0⟩
 | .rsl _ _ _ _, _, _, r => by simpa only [VRel] using r
 | .csl _ _ _ _, _, _, r => by simpa only [VRel] using r
 | .aptr _ _ _, _, _, r => by simpa only [VRel] using r
 | .nilmap, _, _, r => by simpa only [VRel] using r
 | .map _, _, _, r => by simpa only [VRel] using r
 | .nilfn, _, _, r => by simpa only [VRel] using r
 | .fn _ _ _, _, _, r => by simpa only [VRel] using r
 | .yld _, _, _, r => by simpa only [VRel] using r
 | .niliface, _, _, r => by simpa only [VRel] using r
 | .iface _ _, _, _, r => by simpa only [VRel] using r
 | .agg cs, p, _, r => by
  simp only [VRel] at r ⊢
  obtain ⟨cs', hc, hf, hr⟩ := r
  exact ⟨cs', hc, hf, ListRel.any cs p 0 0 cs' hr⟩
 | .tup vs, p, _, r => by
  simp only [VRel] at r ⊢
  obtain ⟨cs', hc, hr⟩ := r
  exact ⟨cs', hc, ListRel.any vs p 0 0 cs' hr⟩
theorem ListRel.any {C : Ctx} : ∀ (vs : List AV) (p : Option (List Nat)) (i j : Nat) (cs : List Value), ListRel C vs none i cs → ListRel C vs p j cs
 | [], _, _, _, _, r => by simpa only [ListRel] using r
 | v :: vs, p, i, j, cs, r => by
  simp only [ListRel] at r ⊢
  obtain ⟨c, cs', hc, hl, hv, hr⟩ := r
  exact ⟨c, cs', hc, hl, VRel.any v _ c hv, ListRel.any vs p (i + 1) (j + 1) cs' hr⟩
end
def Ctx.map (C : Ctx) (g : List Nat → List Nat) : Ctx := { C with L := fun b o => g (C.L b o) }
def Moves (g : List Nat → List Nat) (p p' : Option (List Nat)) : Prop :=
 (p = none ∧ p' = none) ∨ ∃ q q', p = some q ∧ p' = some q' ∧ ∀ r, g (q ++ r) = q' ++ r
theorem Moves.sub {g : List Nat → List Nat} {p p' : Option (List Nat)} (h : Moves g p p') (i : Nat) : Moves g (sub p i) (sub p' i) := by
 rcases h with ⟨rfl, rfl⟩ | ⟨q, q', rfl, rfl, h⟩
 ·exact .inl ⟨rfl, rfl⟩
 ·exact .inr ⟨q ++ [i], q' ++ [i], rfl, rfl, fun r => by have := h ([i] ++ r); simpa using this⟩
mutual
theorem VRel.map {g : List Nat → List Nat} (hf : g froz = froz) {C : Ctx} : ∀ (v : AV) (p p' : Option (List Nat)) (c : Value), Moves g p p' → isLp v = false → (isBx v = true → p' = p) → VRel C v p c → VRel (C.map g) v p' c
 | .unk, _, _, _, _, _, _, _ => by simp [VRel]
 | .bool _, _, _, _, _, _, _, r => by simpa only [VRel] using r
 | .int _ _, _, _, _, _, _, _, r => by simpa only [VRel] using r
 | .str _, _, _, _, _, _, _, r => by simpa only [VRel] using r
 | .nilptr, _, _, _, _, _, _, r => by simpa only [VRel] using r
 | .ptr _ _, _, _, _, _, _, _, r => by simp only [VRel] at r ⊢; exact r
 | .fptr cells, _, _, _, _, _, _, r => by
  simp only [VRel] at r ⊢
  obtain ⟨b, o, hc, hr⟩ := r
  exact ⟨b, o, hc, CellsRel.map hf cells b o hr⟩
 | .box cells, p, p', _, hm, _, hb, r => by
  obtain rfl := hb rfl
  simp only [VRel] at r ⊢
  obtain ⟨d, t, rfl, hc, hr⟩ := r
  refine ⟨d, t, rfl, hc, BoxRel.map hf cells _ _ _ ?_ hr⟩
  rcases hm with ⟨h, _⟩ | ⟨q, q', h1, h2, h⟩
  ·cases h
  ·cases h1; cases h2; exact h
 | .lptr _ _, _, _, _, _, hl, _, _ => by simp [isLp] at hl
 | .nilsl, _, _, _, _, _, _, r => by simpa only [VRel] using r
 | .sl own es rows, p, p', _, hm, _, _, r => by
  simp only [VRel] at r ⊢
  obtain ⟨b, o, cap, s, hc, hl, he, hr, ho, hs0⟩ := r
  refine ⟨b, o, cap, s, hc, hl, he, RowsRel.map hf rows b o es hr, fun hown => ?_, hs0⟩
  obtain ⟨q, rfl, hs, hbb⟩ := ho hown
  rcases hm with ⟨h, _⟩ | ⟨q1, q', h1, rfl, h⟩
  ·cases h
  ·cases h1
   refine ⟨q', rfl, ⟨hs.1, fun x a1 a2 => ?_⟩, hbb⟩
   show g (C.L b x) = q'
   rw [hs.2 x a1 a2]
   have := h []
   simpa using this
 | .rsl _ _ _ _, _, _, _, _, _, _, r => by simp only [VRel] at r ⊢; exact r
 | .csl _ _ _ _, _, _, _, _, _, _, r => by simp only [VRel] at r ⊢; exact r
 | .aptr _ _ _, _, _, _, _, _, _, r => by simp only [VRel] at r ⊢; exact r
 | .nilmap, _, _, _, _, _, _, r => by simpa only [VRel] using r
 | .map _, _, _, _, _, _, _, r => by simp only [VRel] at r ⊢; exact r
 | .nilfn, _, _, _, _, _, _, r => by simpa only [VRel] using r
 | .fn f a b, _, _, _, _, _, _, r => by
  simp only [VRel] at r ⊢
  obtain ⟨a', b', hc, hy, ha, hb⟩ := r
  exact ⟨a', b', hc, hy, ListRel.map hf a none none 0 a' (.inl ⟨rfl, rfl⟩) ha, ListRel.map hf b none none 0 b' (.inl ⟨rfl, rfl⟩) hb⟩
 | .yld _, _, _, _, _, _, _, r => by simp only [VRel] at r ⊢; exact r
 | .niliface, _, _, _, _, _, _, r => by simpa only [VRel] using r
 | .iface t v, _, _, _, _, _, _, r => by
  simp only [VRel] at r ⊢
  obtain ⟨v', hc, hv⟩ := r
  exact ⟨v', hc, VRel.map hf v none none v' (.inl ⟨rfl, rfl⟩) (isPl_lp hv.none_lp) (fun _ => rfl) hv⟩
 | .agg cs, p, p', _, hm, _, _, r => by
  simp only [VRel] at r ⊢
  obtain ⟨cs', hc, hfl, hr⟩ := r
  exact ⟨cs', hc, hfl, ListRel.map hf cs p p' 0 cs' hm hr⟩
 | .tup vs, p, p', _, hm, _, _, r => by
  simp only [VRel] at r ⊢
  obtain ⟨cs', hc, hr⟩ := r
  exact ⟨cs', hc, ListRel.map hf vs p p' 0 cs' hm hr⟩
theorem CellsRel.map {g : List Nat → List Nat} (hf : g froz = froz) {C : Ctx} : ∀ (cs : List AV) (b o : Nat), CellsRel C cs b o → CellsRel (C.map g) cs b o
 | [], _, _, _ => by simp [CellsRel]
 | v :: vs, b, o, r => by
  simp only [CellsRel] at r ⊢
  obtain ⟨⟨c, h1, h2, h3, h4⟩, hr⟩ := r
  exact ⟨⟨c, h1, by show g (C.L b o) = froz; rw [h2, hf], h3, VRel.map hf v none none c (.inl ⟨rfl, rfl⟩) (isPl_lp h4.none_lp) (fun _ => rfl) h4⟩, CellsRel.map hf vs b (o + 1) hr⟩
theorem RowsRel.map {g : List Nat → List Nat} (hf : g froz = froz) {C : Ctx} : ∀ (rs : List (List AV)) (b o es : Nat), RowsRel C rs b o es → RowsRel (C.map g) rs b o es
 | [], _, _, _, _ => by simp [RowsRel]
 | r :: rs, b, o, es, hr => by
  simp only [RowsRel] at hr ⊢
  exact ⟨hr.1, CellsRel.map hf r b o hr.2.1, RowsRel.map hf rs b (o + es) es hr.2.2⟩
theorem BoxRel.map {g : List Nat → List Nat} (hf : g froz = froz) {C : Ctx} : ∀ (cs : List AV) (b : Nat) (q : List Nat) (j : Nat), (∀ r, g (q ++ r) = q ++ r) → BoxRel C cs b q j → BoxRel (C.map g) cs b q j
 | [], _, _, _, _, _ => by simp [BoxRel]
 | v :: vs, b, q, j, hq, r => by
  simp only [BoxRel] at r ⊢
  obtain ⟨⟨c, h1, h2, h3, h4, h5, h6⟩, hr⟩ := r
  refine ⟨⟨c, h1, h2, by show g (C.L b j) = q ++ [0]; rw [h3, hq], h4, h5, ?_⟩, BoxRel.map hf vs b q (j + 1) hq hr⟩
  exact VRel.map hf v _ _ c (.inr ⟨_, _, rfl, rfl, fun r => by have := hq ([j + 1] ++ r); simpa using this⟩) (isPl_lp h5) (fun h => absurd h (by simp [isPl_bx h5])) h6
theorem ListRel.map {g : List Nat → List Nat} (hf : g froz = froz) {C : Ctx} : ∀ (vs : List AV) (p p' : Option (List Nat)) (i : Nat) (cs : List Value), Moves g p p' → ListRel C vs p i cs → ListRel (C.map g) vs p' i cs
 | [], _, _, _, _, _, r => by simpa only [ListRel] using r
 | v :: vs, p, p', i, cs, hm, r => by
  simp only [ListRel] at r ⊢
  obtain ⟨c, cs', hc, hl, hv, hr⟩ := r
  exact ⟨c, cs', hc, hl, VRel.map hf v _ _ c (hm.sub i) (isPl_lp hl) (fun h => absurd h (by simp [isPl_bx hl])) hv, ListRel.map hf vs p p' (i + 1) cs' hm hr⟩
end
end Go.Ab
namespace Go.Ab
theorem ofScalar_rel (C : Ctx) (p : Option (List Nat)) (v : Value) : VRel C (AV.ofScalar v) p v ∧ isPl (AV.ofScalar v) = false := by
 unfold AV.ofScalar
 split <;> simp [VRel, isPl, isLp, isBx]
theorem ofScalars_rel (C : Ctx) (p : Option (List Nat)) : ∀ (vs : List Value) (i : Nat), ListRel C (vs.map AV.ofScalar) p i vs
 | [], _ => by simp [ListRel]
 | v :: vs, i => by
  simp only [List.map_cons, ListRel]
  exact ⟨v, vs, rfl, (ofScalar_rel C (sub p i) v).2, (ofScalar_rel C _ v).1, ofScalars_rel C p vs (i + 1)⟩
theorem flatB_flat {v : Value} (h : flatB v = true) : flat v := by cases v <;> simp_all [flatB, flat]
theorem ofConst_rel (C : Ctx) (p : Option (List Nat)) (v : Value) : VRel C (AV.ofConst v) p v ∧ isPl (AV.ofConst v) = false := by
 unfold AV.ofConst
 split
 ·rename_i cs
  by_cases h : cs.toList.all flatB = true
  ·rw [if_pos h]
   simp only [VRel, isPl, isLp, isBx, Bool.or_self, and_true]
   refine ⟨cs.toList, by simp, fun x hx => flatB_flat (List.all_eq_true.1 h x hx), ofScalars_rel C p _ 0⟩
  ·rw [if_neg h]; simp [VRel, isPl, isLp, isBx]
 ·exact ofScalar_rel C p v
theorem undef_rel (C : Ctx) (p : Option (List Nat)) : VRel C AV.undef p Go.undef := by
 simp only [AV.undef, VRel, Go.undef]
 exact ⟨[], rfl, by simp [ListRel]⟩
variable {C : Ctx} {d : Nat} {env : List AV} {tmps : Array Value}
theorem EnvRel.getD (h : EnvRel C d env tmps) (t : Nat) : VRel C (env.getD t .undef) (some [d + 2, t]) (tmps.getD t Go.undef) := by
 by_cases ht : t < env.length
 ·obtain ⟨c, hc, hv⟩ := h.2 t _ (List.getElem?_eq_getElem ht)
  have : tmps.getD t Go.undef = c := by simp [hc]
  rw [this]
  simpa [List.getD, ht] using hv
 ·have h2 : ¬ t < tmps.size := by rw [← h.1]; exact ht
  have e1 : env.getD t .undef = .undef := by simp [List.getD, ht]
  have e2 : tmps.getD t Go.undef = Go.undef := by simp [h2]
  rw [e1, e2]; exact undef_rel C _
theorem opd_rel (h : EnvRel C d env tmps) (ds : List Deferred) (x : Operand) (p : Option (List Nat)) :
  VRel C (opd env x) p (Act.eval { tmps, defers := ds } x) ∧ isPl (opd env x) = false := by
 cases x with
 | tmp t => exact (h.getD t).strip p
 | const v => exact ofConst_rel C p v
 | global g => simp [opd, VRel, isPl, isLp, isBx]
 | func f =>
  simp only [opd, VRel, Act.eval, isPl, isLp, isBx, Bool.or_self, and_true]
  exact ⟨[], [], rfl, by simp, by simp [ListRel]⟩
theorem clr_rel {v : AV} {p : Option (List Nat)} {c : Value} (h : VRel C v p c) : VRel C v.clr p c ∧ isPl v.clr = false := by
 cases v <;> simp only [AV.clr, isPl, isLp, isBx, Bool.or_self, and_true] <;> first | exact h | simp [VRel]
theorem opt_rel (h : EnvRel C d env tmps) (ds : List Deferred) (t : Nat) :
  VRel C (opt env (.tmp t)) (some [d + 2, t]) (Act.eval { tmps, defers := ds } (.tmp t)) ∧ isPl (opt env (.tmp t)) = false :=
 clr_rel (h.getD t)
theorem EnvRel.set (h : EnvRel C d env tmps) (t : Nat) {v : AV} {c : Value} (hv : VRel C v (some [d + 2, t]) c) :
  EnvRel C d (env.set t v) (tmps.setIfInBounds t c) := by
 refine ⟨by simp [h.1], fun t' v' h' => ?_⟩
 rw [List.getElem?_set] at h'
 by_cases e : t = t'
 ·subst e
  simp only [if_true] at h'
  split at h'
  ·rename_i hlt
   cases h'
   have hlt' : t < tmps.size := by rw [← h.1]; exact hlt
   exact ⟨c, by simp [hlt'], hv⟩
  ·cases h'
 ·rw [if_neg e] at h'
  obtain ⟨c', hc', hv'⟩ := h.2 t' v' h'
  exact ⟨c', by rw [Array.getElem?_setIfInBounds]; simp [e, hc'], hv'⟩
theorem EnvRel.setA (h : EnvRel C d env tmps) (t : Nat) {v : AV} (hv : VRel C v (some [d + 2, t]) (tmps.getD t Go.undef)) :
  EnvRel C d (env.set t v) tmps := by
 refine ⟨by simp [h.1], fun t' v' h' => ?_⟩
 rw [List.getElem?_set] at h'
 by_cases e : t = t'
 ·subst e
  simp only [if_true] at h'
  split at h'
  ·rename_i hlt
   cases h'
   have hlt' : t < tmps.size := by rw [← h.1]; exact hlt
   refine ⟨tmps[t], by simp [hlt'], ?_⟩
   have : tmps.getD t Go.undef = tmps[t] := by simp [hlt']
   rw [this] at hv; exact hv
  ·cases h'
 ·rw [if_neg e] at h'
  exact h.2 t' v' h'
theorem EnvRel.stripAt : ∀ (ts : List Tmp) {env : List AV}, EnvRel C d env tmps → EnvRel C d (stripAt env ts) tmps
 | [], _, h => h
 | t :: ts, _, h => EnvRel.stripAt ts (h.setA t ((h.getD t).strip _).1)
theorem EnvRel.wipe : ∀ (ts : List Tmp) {env : List AV}, EnvRel C d env tmps → EnvRel C d (wipe env ts) tmps
 | [], _, h => h
 | t :: ts, _, h => EnvRel.wipe ts (h.setA t (by simp [VRel]))
theorem strip0_idem (v : AV) : v.strip0.strip0 = v.strip0 := by cases v <;> rfl
theorem strip1_idem (v : AV) : v.strip1.strip1 = v.strip1 := by
 cases v <;> simp [AV.strip1, AV.strip0]
 intro a _; exact strip0_idem a
theorem strip_idem (v : AV) : v.strip.strip = v.strip := by
 cases v <;> simp [AV.strip, AV.strip1, AV.strip0]
 ·intro a _; exact strip0_idem a
 ·intro a _; exact strip1_idem a
def Fixed (g : List Nat → List Nat) (d : Nat) (t : Nat) (v : AV) : Prop := (∀ r, g ((d + 2) :: t :: r) = (d + 2) :: t :: r) ∨ v.strip = v
theorem EnvRel.map {g : List Nat → List Nat} (hf : g froz = froz) (h : EnvRel C d env tmps) (hg : ∀ (t : Nat) v, env[t]? = some v → Fixed g d t v) :
  EnvRel (C.map g) d env tmps := by
 refine ⟨h.1, fun t v hv => ?_⟩
 obtain ⟨c, hc, hr⟩ := h.2 t v hv
 refine ⟨c, hc, ?_⟩
 rcases hg t v hv with hg | hg
 ·by_cases hl : isLp v = true
  ·cases v <;> simp [isLp] at hl
   simp only [VRel] at hr ⊢
   exact hr
  ·exact VRel.map hf v _ _ c (.inr ⟨_, _, rfl, rfl, fun r => by simpa using hg r⟩) (by simpa using hl) (fun _ => rfl) hr
 ·have := (hr.strip none)
  rw [hg] at this
  exact VRel.any _ _ _ (VRel.map hf v none none c (.inl ⟨rfl, rfl⟩) (isPl_lp this.2) (fun _ => rfl) this.1)
theorem ArrRow.map {g : List Nat → List Nat} (hf : g froz = froz) {q : List Nat} (hq : g q = q) : ∀ {vs : List AV} {b o : Nat}, ArrRow C q vs b o → ArrRow (C.map g) q vs b o
 | [], _, _, _ => trivial
 | v :: vs, b, o, ⟨⟨c, h1, h2, h3, h4, h5⟩, hr⟩ =>
  ⟨⟨c, h1, h2, by show g (C.L b o) = q; rw [h3, hq], h4, VRel.map hf v none none c (.inl ⟨rfl, rfl⟩) (isPl_lp h5.none_lp) (fun _ => rfl) h5⟩, hr.map hf hq⟩
theorem ArrRel.map {g : List Nat → List Nat} (hf : g froz = froz) {q : List Nat} (hq : g q = q) : ∀ {rs : List (List AV)} {b o es : Nat}, ArrRel C q rs b o es → ArrRel (C.map g) q rs b o es
 | [], _, _, _, _ => trivial
 | _ :: _, _, _, _, ⟨h1, h2, h3⟩ => ⟨h1, h2.map hf hq, h3.map hf hq⟩
theorem Spare.map {g : List Nat → List Nat} {q : List Nat} (hq : g q = q) {b lo hi : Nat} (h : Spare C b lo hi q) : Spare (C.map g) b lo hi q :=
 ⟨h.1, fun o h1 h2 => by show g (C.L b o) = q; rw [h.2 o h1 h2, hq]⟩
theorem MapRel.map {g : List Nat → List Nat} (hf : g froz = froz) : ∀ {es : List (AV × AV)} {ces : List MapEntry}, MapRel C es ces → MapRel (C.map g) es ces
 | [], [], _ => trivial
 | (k, v) :: _, e :: _, ⟨h1, h2, h3⟩ => ⟨VRel.map hf k none none e.key (.inl ⟨rfl, rfl⟩) (isPl_lp h1.none_lp) (fun _ => rfl) h1, VRel.map hf v none none e.val (.inl ⟨rfl, rfl⟩) (isPl_lp h2.none_lp) (fun _ => rfl) h2, h3.map hf⟩
 | [], _ :: _, h => h.elim
 | _ :: _, [], h => h.elim
theorem MapRel.length : ∀ {es : List (AV × AV)} {ces : List MapEntry}, MapRel C es ces → ces.length = es.length
 | [], [], _ => rfl
 | (_, _) :: _, _ :: _, ⟨_, _, h⟩ => by simp [h.length]
 | [], _ :: _, h => h.elim
 | _ :: _, [], h => h.elim
theorem ObjRel.map {g : List Nat → List Nat} (hf : g froz = froz) {id : Nat} (hg : ∀ r, g (1 :: id :: r) = 1 :: id :: r) : ∀ {o : Obj}, ObjRel C id o → ObjRel (C.map g) id o
 | .cells cs, h => BoxRel.map hf cs _ _ _ (fun r => by simpa using hg r) h
 | .arr es rows, ⟨h1, h2, h3, h4, h5⟩ => ⟨h1, h2, h3, h4.map hf (hg [0]), h5.map (hg [0])⟩
 | .map es, ⟨⟨ces, clock, h1, h2⟩, h4⟩ => ⟨⟨ces, clock, h1, h2.map hf⟩, fun o => (congrArg g (h4 o)).trans (hg [0])⟩
 | .loop l, ⟨lp, h1, h2, h3, h4, h5, h6, h7, h8, h9, h10⟩ =>
  ⟨lp, h1, fun o => (congrArg g (h2 o)).trans (hg [0]), h3, h4, h5, h6, h7, h8, ListRel.map hf _ none none 0 _ (.inl ⟨rfl, rfl⟩) h9, h10⟩
 | .deferred, ⟨h1, h2⟩ => ⟨h1, fun o => (congrArg g (h2 o)).trans (hg [0])⟩
 | .siter _ _, ⟨h1, h2⟩ => ⟨h1, fun o => (congrArg g (h2 o)).trans (hg [0])⟩
theorem HeapRel.map {g : List Nat → List Nat} (hf : g froz = froz) (hz : g [] = []) (hg : ∀ r, g (1 :: r) = 1 :: r) {S : Sto} (h : HeapRel C S) : HeapRel (C.map g) S :=
 ⟨h.n, h.nodup, fun id o ho => ⟨(h.obj id o ho).1, (h.obj id o ho).2.map hf (fun r => hg (id :: r))⟩, fun b o hb => by show g (C.L b o) = []; rw [h.fresh b o hb, hz], ⟨h.base.1, fun b o hb => by show g (C.L b o) = froz; rw [h.base.2 b o hb, hf]⟩⟩
theorem ArrRow.mono {X : List Nat → Prop} {C' : Ctx} (h : Ext X C C') {q : List Nat} (hq : q ≠ [] ∧ ¬ X q) : ∀ {vs : List AV} {b o : Nat}, ArrRow C q vs b o → ArrRow C' q vs b o
 | [], _, _, _ => trivial
 | v :: vs, b, o, ⟨⟨c, h1, h2, h3, h4, h5⟩, hr⟩ => by
  have hk := h.keep b o (by rw [h3]; exact hq.1) (by rw [h3]; exact hq.2)
  exact ⟨⟨c, hk.2.1.trans h1, h2.mono h, hk.1.trans h3, h4, VRel.mono h v none c (Off.none X) (isPl_lp h5.none_lp) h5⟩, hr.mono h hq⟩
theorem ArrRel.mono {X : List Nat → Prop} {C' : Ctx} (h : Ext X C C') {q : List Nat} (hq : q ≠ [] ∧ ¬ X q) : ∀ {rs : List (List AV)} {b o es : Nat}, ArrRel C q rs b o es → ArrRel C' q rs b o es
 | [], _, _, _, _ => trivial
 | _ :: _, _, _, _, ⟨h1, h2, h3⟩ => ⟨h1, h2.mono h hq, h3.mono h hq⟩
theorem MapRel.mono {X : List Nat → Prop} {C' : Ctx} (h : Ext X C C') : ∀ {es : List (AV × AV)} {ces : List MapEntry}, MapRel C es ces → MapRel C' es ces
 | [], [], _ => trivial
 | (k, v) :: _, e :: _, ⟨h1, h2, h3⟩ => ⟨VRel.mono h k none e.key (Off.none X) (isPl_lp h1.none_lp) h1, VRel.mono h v none e.val (Off.none X) (isPl_lp h2.none_lp) h2, h3.mono h⟩
 | [], _ :: _, h => h.elim
 | _ :: _, [], h => h.elim
theorem ObjRel.mono {X : List Nat → Prop} {C' : Ctx} (h : Ext X C C') {id : Nat} (hid : id < C.n) (hX : ∀ r, ¬ X (1 :: id :: r)) : ∀ {o : Obj}, ObjRel C id o → ObjRel C' id o
 | .cells cs, ho => by
  simp only [ObjRel] at ho ⊢
  rw [(h.ids id hid).1]
  exact BoxRel.mono h cs _ _ _ (fun q hq => by cases hq; exact ⟨by simp, by simp [froz], fun r => hX r⟩) ho
 | .arr es rows, ⟨h1, h2, h3, h4, h5⟩ => by
  obtain ⟨e1, e2, e3, e4⟩ := h.ids id hid
  have hq : [1, id, 0] ≠ [] ∧ ¬ X [1, id, 0] := ⟨by simp, hX [0]⟩
  refine ⟨h1, e3.trans h2, by rw [e4]; exact h3, ?_, ?_⟩
  ·rw [e1, e2]; exact h4.mono h hq
  ·rw [e1, e2, e4]; exact h5.mono h ⟨by simp, by simp [froz], fun r => by simpa using hX (0 :: r)⟩
 | .map es, ⟨⟨ces, clock, h1, h3⟩, h2⟩ => by
  have hk := fun o => h.keep (C.φ id) o (by rw [h2 o]; simp) (by rw [h2 o]; exact hX [0])
  have e1 := (h.ids id hid).1
  exact ⟨⟨ces, clock, by rw [e1]; exact (hk 0).2.2 _ h1 rfl, h3.mono h⟩, fun o => by rw [e1]; exact (hk o).1.trans (h2 o)⟩
 | .loop l, ⟨lp, h1, h2, h3, h4, h5, h6, h7, h8, h9, h10⟩ => by
  have hk := fun o => h.keep (C.φ id) o (by rw [h2 o]; simp) (by rw [h2 o]; exact hX [0])
  obtain ⟨h10, h11⟩ := h10
  have e1 := (h.ids id hid).1
  exact ⟨lp, by rw [e1]; exact (hk 0).2.2 _ h1 rfl, fun o => by rw [e1]; exact (hk o).1.trans (h2 o), h3, h4, h5, h6, h7, h8, ListRel.mono h _ none 0 _ (Off.none X) h9, h10.trans (h.ids _ h11).1.symm, Nat.lt_of_lt_of_le h11 h.n⟩
 | .deferred, ⟨h1, h2⟩ => by
  have hk := fun o => h.keep (C.φ id) o (by rw [h2 o]; simp) (by rw [h2 o]; exact hX [0])
  show C'.w.heap[C'.φ id]? = _ ∧ ∀ o, C'.L (C'.φ id) o = _
  rw [(h.ids id hid).1]
  exact ⟨(hk 0).2.2 _ h1 rfl, fun o => (hk o).1.trans (h2 o)⟩
 | .siter _ _, ⟨h1, h2⟩ => by
  have hk := fun o => h.keep (C.φ id) o (by rw [h2 o]; simp) (by rw [h2 o]; exact hX [0])
  show C'.w.heap[C'.φ id]? = _ ∧ ∀ o, C'.L (C'.φ id) o = _
  rw [(h.ids id hid).1]
  exact ⟨(hk 0).2.2 _ h1 rfl, fun o => (hk o).1.trans (h2 o)⟩
theorem HeapRel.mono {X : List Nat → Prop} {C' : Ctx} {S : Sto} (h : Ext X C C') (hn : C'.n = C.n) (hX : ∀ r, ¬ X (1 :: r)) (hfr : ∀ b o, C'.w.heap.size ≤ b → C'.L b o = []) (hS : HeapRel C S) : HeapRel C' S :=
 ⟨hn.trans hS.n, hS.nodup, fun id o ho => ⟨(hS.obj id o ho).1, (hS.obj id o ho).2.mono h (by rw [hS.n]; exact (hS.obj id o ho).1) (fun r => hX (id :: r))⟩, hfr, hS.base.mono h⟩
theorem EnvRel.mono {X : List Nat → Prop} {C' : Ctx} (h : Ext X C C') (hX : ∀ t r, ¬ X ((d + 2) :: t :: r)) (hE : EnvRel C d env tmps) : EnvRel C' d env tmps := by
 refine ⟨hE.1, fun t v hv => ?_⟩
 obtain ⟨c, hc, hr⟩ := hE.2 t v hv
 refine ⟨c, hc, ?_⟩
 by_cases hl : isLp v = true
 ·cases v <;> simp [isLp] at hl
  rename_i s off
  simp only [VRel] at hr ⊢
  obtain ⟨d', r, hp, rfl⟩ := hr
  obtain ⟨h1, h2⟩ := List.cons.inj (Option.some.inj hp)
  have hd : d' = d := by omega
  subst hd
  exact ⟨d', r, hp, by rw [h.β d' s (hX s [])]⟩
 ·exact VRel.mono h v _ c (fun q hq => by cases hq; exact ⟨by simp, by simp [froz], fun r => hX t r⟩) (by simpa using hl) hr
def Deep (d : Nat) (l : List Nat) : Prop := ∃ k r, l = k :: r ∧ (k = 1 ∨ d + 2 ≤ k)
theorem Ext.map {X : List Nat → Prop} (C : Ctx) {g : List Nat → List Nat} (hf : g froz = froz) (hg : ∀ l, ¬ X l → g l = l) : Ext X C (C.map g) :=
 ⟨Nat.le_refl _, fun _ _ => ⟨rfl, rfl, rfl, rfl⟩, fun b o h => ⟨by show g (C.L b o) = froz; rw [h, hf], Same.refl _ _ _⟩,
  fun b o _ hx => ⟨hg _ hx, Same.refl _ _ _⟩, fun _ _ _ => rfl, fun _ cs _ fr h => ⟨cs, fr, h, rfl, id⟩, ⟨rfl, Nat.le_refl _, rfl, rfl, rfl, fun _ cs _ _ _ h => ⟨cs, h⟩⟩⟩
end Go.Ab
namespace Go.Ab
structure Fine (P : Program) : Prop where
 fields : ∀ t fs, t < P.types.size → P.underlying t = some (.struct fs) → ∀ f ∈ fs.toList, (P.info? f.type).isSome = true
 elems : ∀ t n e, t < P.types.size → P.underlying t = some (.array n e) → (P.info? e).isSome = true
 calls : ∀ (f : Nat) fn, P.funcs[f]? = some fn → fn.body.isSome = true → (fn.name == "runtime.NumGoroutine") = false
variable {P : Program} {C : Ctx} {n : Nat}
theorem flat_cells {c : Value} (h : flat c) : c.cells = #[c] := by cases c <;> simp_all [flat, Value.cells]
theorem flat_one {c : Value} (h : flat c) : c.oneCell' = true := by cases c <;> simp_all [flat, Value.oneCell']
theorem flat_of {v : AV} {p : Option (List Nat)} {c : Value} (h : VRel C v p c) (hok : okTop v = true) (hagg : ∀ cs, v ≠ .agg cs) : flat c := by
 cases v <;> simp only [okTop, VRel] at h hok <;> try cases hok
 case agg cs => exact absurd rfl (hagg cs)
 case bool => subst h; trivial
 case int => subst h; trivial
 case str => obtain ⟨b, rfl, _⟩ := h; trivial
 case nilptr => subst h; trivial
 case ptr => obtain ⟨rfl, _⟩ := h; trivial
 case fptr => obtain ⟨b, o, rfl, _⟩ := h; trivial
 case nilsl => subst h; trivial
 case sl => obtain ⟨b, o, cap, s, rfl, _⟩ := h; trivial
 case rsl => obtain ⟨b, o, cap, rfl, _⟩ := h; trivial
 case csl => obtain ⟨b, o, rfl, _⟩ := h; trivial
 case aptr => obtain ⟨rfl, _⟩ := h; trivial
 case nilmap => subst h; trivial
 case map => obtain ⟨rfl, _⟩ := h; trivial
 case nilfn => subst h; trivial
 case fn => obtain ⟨a, b, rfl, _⟩ := h; trivial
 case yld => obtain ⟨rfl, _⟩ := h; trivial
 case niliface => subst h; trivial
 case iface => obtain ⟨v', rfl, _⟩ := h; trivial
theorem cells_plain {v : AV} {c : Value} (h : VRel C v none c) (hok : okTop v = true) :
  ListRel C v.cells none 0 c.cells.toList ∧ ∀ x ∈ c.cells.toList, flat x := by
 by_cases ha : ∃ cs, v = .agg cs
 ·obtain ⟨cs, rfl⟩ := ha
  simp only [VRel] at h
  obtain ⟨cs', rfl, hf, hr⟩ := h
  exact ⟨by simpa [AV.cells, Value.cells] using hr, by simpa [Value.cells] using hf⟩
 ·have ha' : ∀ cs, v ≠ .agg cs := fun cs e => ha ⟨cs, e⟩
  have hf := flat_of h hok ha'
  have hv : v.cells = [v] := by cases v <;> first | rfl | exact absurd rfl (ha' _)
  rw [hv, flat_cells hf]
  refine ⟨?_, by simpa using hf⟩
  simp only [ListRel, sub, Option.map_none]
  exact ⟨c, [], by simp, h.none_lp, h, rfl⟩
theorem ListRel.length : ∀ {vs : List AV} {p : Option (List Nat)} {i : Nat} {cs : List Value}, ListRel C vs p i cs → cs.length = vs.length
 | [], _, _, _, h => by simp only [ListRel] at h; simp [h]
 | v :: vs, _, _, _, h => by
  simp only [ListRel] at h
  obtain ⟨c, cs', rfl, _, _, hr⟩ := h
  simp [hr.length]
theorem ListRel.getElem? : ∀ {vs : List AV} {p : Option (List Nat)} {i : Nat} {cs : List Value}, ListRel C vs p i cs → ∀ (j : Nat) v, vs[j]? = some v →
  ∃ c, cs[j]? = some c ∧ isPl v = false ∧ VRel C v (sub p (i + j)) c
 | [], _, _, _, _, _, _, hv => by simp at hv
 | v :: vs, p, i, _, h, j, v', hv => by
  simp only [ListRel] at h
  obtain ⟨c, cs', rfl, hl, hr, hrs⟩ := h
  cases j with
  | zero => simp only [List.getElem?_cons_zero, Option.some.injEq] at hv; subst hv; exact ⟨c, rfl, hl, by simpa using hr⟩
  | succ j =>
   simp only [List.getElem?_cons_succ] at hv
   obtain ⟨c', h1, h2, h3⟩ := hrs.getElem? j v' hv
   exact ⟨c', by simpa using h1, h2, by rw [show i + (j + 1) = i + 1 + j by omega]; exact h3⟩
theorem ListRel.drop : ∀ {vs : List AV} {i : Nat} {cs : List Value} (n : Nat), ListRel C vs none i cs → ListRel C (vs.drop n) none 0 (cs.drop n)
 | [], _, _, n, h => by simp only [ListRel] at h; simp [h, ListRel]
 | v :: vs, i, _, 0, h => by
  have := ListRel.any (v :: vs) none i 0 _ h
  simpa using this
 | v :: vs, i, _, n + 1, h => by
  simp only [ListRel] at h
  obtain ⟨c, cs', rfl, _, _, hr⟩ := h
  simpa using hr.drop n
theorem ListRel.take : ∀ {vs : List AV} {i : Nat} {cs : List Value} (n : Nat), ListRel C vs none i cs → ListRel C (vs.take n) none i (cs.take n)
 | [], _, _, n, h => by simp only [ListRel] at h; simp [h, ListRel]
 | v :: vs, i, _, 0, h => by simp [ListRel]
 | v :: vs, i, _, n + 1, h => by
  simp only [ListRel] at h
  obtain ⟨c, cs', rfl, h1, h2, hr⟩ := h
  simp only [List.take_succ_cons, ListRel]
  exact ⟨c, cs'.take n, rfl, h1, h2, hr.take n⟩
def aggD : TypeDesc → Bool
 | .struct _ | .array _ _ => true
 | _ => false
theorem run_isAgg (w : World) (t : TypeId) {d : TypeDesc} (h : P.underlying t = some d) : (isAgg t).run P w = .ok (aggD d) w := by
 unfold isAgg
 rw [Sem.run_bind, run_underlying h]
 cases d <;> rfl
theorem valAt_eq {t : TypeId} {d : TypeDesc} (h : P.underlying t = some d) (cells : List AV) :
  valAt P t cells = if aggD d = true then (if P.cellsOf t ≤ cells.length then some (.agg (cells.take (P.cellsOf t))) else none) else cells.head? := by
 unfold valAt
 rw [h]
 cases d <;> rfl
theorem info_of_underlying {t : TypeId} {d : TypeDesc} (h : P.underlying t = some d) : ∃ i, P.info? t = some i ∧ P.cellsOf t = i.size ∧ P.bytesOf t = i.bytes := by
 unfold Program.underlying at h
 cases hi : P.info? t with
 | none => rw [hi] at h; simp at h
 | some i => exact ⟨i, rfl, by simp [Program.cellsOf, hi], by simp [Program.bytesOf, hi]⟩
theorem run_sizeOf_of (w : World) {t : TypeId} (h : P.cellsOf t ≠ 0) : (sizeOf t).run P w = .ok (P.cellsOf t) w := by
 cases hi : P.info? t with
 | none => simp [Program.cellsOf, hi] at h
 | some i => simp [sizeOf, typeInfo, hi, Program.cellsOf]
theorem run_sizeOf_u (w : World) {t : TypeId} {d : TypeDesc} (h : P.underlying t = some d) : (sizeOf t).run P w = .ok (P.cellsOf t) w := by
 obtain ⟨i, hi, hc, _⟩ := info_of_underlying h
 simp [sizeOf, typeInfo, hi, hc]
theorem part_run (w : World) {t : TypeId} {vs : List AV} {cs : List Value} (hr : ListRel C vs none 0 cs) (hf : ∀ x ∈ cs, flat x) {v : AV} (off : Nat)
  (h : valAt P t (vs.drop off) = some v) : ∃ c, (part t cs.toArray off).run P w = .ok c w ∧ VRel C v none c := by
 cases hu : P.underlying t with
 | none => unfold valAt at h; rw [hu] at h; cases h
 | some d =>
  rw [valAt_eq hu] at h
  have hd := hr.drop off
  by_cases ha : aggD d = true
  ·rw [if_pos ha] at h
   split at h
   ·cases h
    refine ⟨.agg (cs.toArray.extract off (off + P.cellsOf t)), ?_, ?_⟩
    ·simp [part, run_isAgg w t hu, ha, run_sizeOf_u w hu]
    ·simp only [VRel]
     refine ⟨(cs.drop off).take (P.cellsOf t), ?_, fun x hx => hf x (List.mem_of_mem_drop (List.mem_of_mem_take hx)), hd.take _⟩
     congr 1
     apply Array.ext'
     simp [List.take_drop]
   ·cases h
  ·rw [if_neg ha] at h
   rw [List.head?_drop] at h
   obtain ⟨c, hc, _, hv⟩ := hr.getElem? off v h
   refine ⟨c, ?_, by simpa [sub] using hv⟩
   have ha' : aggD d = false := by simpa using ha
   simp [part, run_isAgg w t hu, ha', hc]
theorem eqFields_run (hn : ∀ (t : TypeId) (x y : AV) (cx cy : Value) (r : Bool), VRel C x none cx → VRel C y none cy → eqA P n t x y = some r → ∀ w, (Op.equalIn n t cx cy).run P w = .ok r w)
  {xs ys : List AV} {cx cy : List Value} (hx : ListRel C xs none 0 cx) (hy : ListRel C ys none 0 cy) (fx : ∀ x ∈ cx, flat x) (fy : ∀ x ∈ cy, flat x) (w : World) :
  ∀ (fs : List Field) (r : Bool), eqFields P (eqA P n) fs xs ys = some r → (Op.eqFields n cx.toArray cy.toArray fs).run P w = .ok r w
 | [], r, h => by simp only [eqFields] at h; cases h; rfl
 | f :: fs, r, h => by
  unfold eqFields at h
  unfold Op.eqFields
  by_cases hb : f.name = "_"
  ·rw [if_pos hb] at h
   rw [if_neg (by simp [hb])]
   exact eqFields_run hn hx hy fx fy w fs r h
  ·rw [if_neg hb] at h
   rw [if_pos hb]
   split at h
   ·rename_i x y h1 h2
    obtain ⟨a, ha, hva⟩ := part_run w hx fx f.offset h1
    obtain ⟨b, hb', hvb⟩ := part_run w hy fy f.offset h2
    simp only [Sem.run_bind, ha, hb', Result.andThen_ok]
    split at h
    ·rename_i he
     rw [hn _ _ _ _ _ _ hva hvb he w]
     simp only [Result.andThen_ok, Bool.not_true, Bool.false_eq_true, if_false]
     exact eqFields_run hn hx hy fx fy w fs r h
    ·rename_i q he
     cases r with
     | true => exact absurd h he
     | false =>
      rw [hn _ _ _ _ _ _ hva hvb h w]
      simp
   ·cases h
theorem eqItems_run (hn : ∀ (t : TypeId) (x y : AV) (cx cy : Value) (r : Bool), VRel C x none cx → VRel C y none cy → eqA P n t x y = some r → ∀ w, (Op.equalIn n t cx cy).run P w = .ok r w)
  {xs ys : List AV} {cx cy : List Value} (hx : ListRel C xs none 0 cx) (hy : ListRel C ys none 0 cy) (fx : ∀ x ∈ cx, flat x) (fy : ∀ x ∈ cy, flat x) (w : World) (e : TypeId) (c : Nat) :
  ∀ (is : List Nat) (r : Bool), eqItemsA P (eqA P n) e c xs ys is = some r → (Op.eqItems n e c cx.toArray cy.toArray is).run P w = .ok r w
 | [], r, h => by simp only [eqItemsA] at h; cases h; rfl
 | i :: is, r, h => by
  unfold eqItemsA at h
  unfold Op.eqItems
  split at h
  ·rename_i x y h1 h2
   obtain ⟨a, ha, hva⟩ := part_run w hx fx (i * c) h1
   obtain ⟨b, hb', hvb⟩ := part_run w hy fy (i * c) h2
   simp only [Sem.run_bind, ha, hb', Result.andThen_ok]
   split at h
   ·rename_i he
    rw [hn _ _ _ _ _ _ hva hvb he w]
    simp only [Result.andThen_ok, Bool.not_true, Bool.false_eq_true, if_false]
    exact eqItems_run hn hx hy fx fy w e c is r h
   ·rename_i q he
    cases r with
    | true => exact absurd h he
    | false =>
     rw [hn _ _ _ _ _ _ hva hvb h w]
     simp
  ·cases h
set_option maxHeartbeats 2000000 in
theorem eqA_run (hF : Fine P) (w : World) : ∀ (n : Nat) (t : TypeId) (x y : AV) (cx cy : Value) (r : Bool), VRel C x none cx → VRel C y none cy → eqA P n t x y = some r →
  (Op.equalIn n t cx cy).run P w = .ok r w
 | 0, _, _, _, _, _, _, _, _, h => by simp [eqA] at h
 | n + 1, t, x, y, cx, cy, r, hx, hy, h => by
  unfold eqA at h
  split at h
  case h_1 hu => simp only [VRel] at hx hy; subst hx hy; cases h; simp [Op.equalIn, run_underlying hu]
  case h_2 hu =>
   simp only [VRel] at hx hy; subst hx hy
   split at h
   ·rename_i e; cases h; subst e; simp [Op.equalIn, run_underlying hu]
   ·cases h
  case h_3 hu =>
   simp only [VRel] at hx hy
   obtain ⟨a, rfl, ha⟩ := hx
   obtain ⟨b, rfl, hb⟩ := hy
   cases h
   rw [run_equalIn_string w n t a b hu, ByteArray.toList_eq, ByteArray.toList_eq, ha, hb]
  case h_4 hu => simp only [VRel] at hx hy; subst hx hy; cases h; simp [Op.equalIn, run_underlying hu]
  case h_5 hu => simp only [VRel] at hx hy; obtain ⟨rfl, _⟩ := hy; subst hx; cases h; simp [Op.equalIn, run_underlying hu]
  case h_6 hu => simp only [VRel] at hx hy; obtain ⟨rfl, _⟩ := hx; subst hy; cases h; simp [Op.equalIn, run_underlying hu]
  case h_7 hu => simp only [VRel] at hx hy; subst hx hy; cases h; simp [Op.equalIn, run_underlying hu]
  case h_8 hu => simp only [VRel] at hx hy; obtain ⟨v', rfl, _⟩ := hy; subst hx; cases h; simp [Op.equalIn, run_underlying hu]
  case h_9 hu => simp only [VRel] at hx hy; obtain ⟨v', rfl, _⟩ := hx; subst hy; cases h; simp [Op.equalIn, run_underlying hu]
  case h_10 hu => simp only [VRel] at hx hy; subst hx hy; cases h; simp [Op.equalIn, run_underlying hu]
  case h_11 hu => simp only [VRel] at hx hy; obtain ⟨b, o, cap, s, rfl, _⟩ := hy; subst hx; cases h; simp [Op.equalIn, run_underlying hu]
  case h_12 hu => simp only [VRel] at hx hy; obtain ⟨b, o, cap, s, rfl, _⟩ := hx; subst hy; cases h; simp [Op.equalIn, run_underlying hu]
  case h_13 hu => simp only [VRel] at hx hy; obtain ⟨b, o, cap, rfl, _⟩ := hy; subst hx; cases h; simp [Op.equalIn, run_underlying hu]
  case h_14 hu => simp only [VRel] at hx hy; obtain ⟨b, o, cap, rfl, _⟩ := hx; subst hy; cases h; simp [Op.equalIn, run_underlying hu]
  case h_15 hu => simp only [VRel] at hx hy; subst hx hy; cases h; simp [Op.equalIn, run_underlying hu]
  case h_16 hu => simp only [VRel] at hx hy; obtain ⟨rfl, _⟩ := hy; subst hx; cases h; simp [Op.equalIn, run_underlying hu]
  case h_17 hu => simp only [VRel] at hx hy; obtain ⟨rfl, _⟩ := hx; subst hy; cases h; simp [Op.equalIn, run_underlying hu]
  case h_18 hu => simp only [VRel] at hx hy; subst hx hy; cases h; simp [Op.equalIn, run_underlying hu]
  case h_19 hu => simp only [VRel] at hx hy; obtain ⟨a, b, rfl, _⟩ := hy; subst hx; cases h; simp [Op.equalIn, run_underlying hu]
  case h_20 hu => simp only [VRel] at hx hy; obtain ⟨a, b, rfl, _⟩ := hx; subst hy; cases h; simp [Op.equalIn, run_underlying hu]
  case h_21 hu => simp only [VRel] at hx hy; obtain ⟨rfl, _⟩ := hy; subst hx; cases h; simp [Op.equalIn, run_underlying hu]
  case h_22 hu => simp only [VRel] at hx hy; obtain ⟨rfl, _⟩ := hx; subst hy; cases h; simp [Op.equalIn, run_underlying hu]
  case h_23 fs xs ys hu =>
   simp only [VRel] at hx hy
   obtain ⟨cx, rfl, fx, hx⟩ := hx
   obtain ⟨cy, rfl, fy, hy⟩ := hy
   have hfo : P.fieldsOf t = fs := by unfold Program.fieldsOf; rw [hu]
   by_cases hst : P.stoodInHeld t = true
   ·rw [if_pos hst] at h; cases h
   rw [if_neg hst] at h
   rw [run_equalIn_struct w n t _ _ (by rw [hfo]; exact hu) (by simpa using hst), hfo]
   exact eqFields_run (fun t x y cx cy r hx hy h w => eqA_run hF w n t x y cx cy r hx hy h) hx hy fx fy w fs.toList r h
  case h_24 len e xs ys hu =>
   simp only [VRel] at hx hy
   obtain ⟨cx, rfl, fx, hx⟩ := hx
   obtain ⟨cy, rfl, fy, hy⟩ := hy
   by_cases hi : (P.info? e).isSome = true
   ·rw [if_pos hi] at h
    obtain ⟨i, hi⟩ := Option.isSome_iff_exists.1 hi
    rw [Go.run_equalIn_array w n _ _ hu hi]
    exact eqItems_run (fun t x y cx cy r hx hy h w => eqA_run hF w n t x y cx cy r hx hy h) hx hy fx fy w e _ (List.range len) r h
   ·rw [if_neg hi] at h; cases h
  case h_25 => cases h
end Go.Ab
namespace Go.Ab
variable {P : Program} {C : Ctx} {n : Nat}
theorem wrapS (w : World) (v : Value) : (pure v : Sem Value).run P w = .ok v w := rfl
theorem intBin_run (w : World) {op : BinOp} {t : TypeId} {k : IntKind} {a b : Int} {v : AV} (h : intBin op k a b = some v) :
  ∃ c, (binOp op t (.int k a) (.int k b)).run P w = .ok c w ∧ VRel C v none c := by
 cases op <;> simp only [intBin, bitsA, cmpInt] at h
 case add => cases h; exact ⟨.int k (k.wrap (a + b)), by simp [binOp, Op.intArith], by simp only [VRel]⟩
 case sub => cases h; exact ⟨.int k (k.wrap (a - b)), by simp [binOp, Op.intArith], by simp only [VRel]⟩
 case mul => cases h; exact ⟨.int k (k.wrap (a * b)), by simp [binOp, Op.intArith], by simp only [VRel]⟩
 case quo =>
  by_cases hb : b = 0
  ·rw [if_pos hb] at h; cases h
  ·rw [if_neg hb] at h; cases h; exact ⟨.int k (k.wrap (a.tdiv b)), by simp [binOp, Op.intDiv, hb], by simp only [VRel]⟩
 case rem =>
  by_cases hb : b = 0
  ·rw [if_pos hb] at h; cases h
  ·rw [if_neg hb] at h; cases h; exact ⟨.int k (a.tmod b), by simp [binOp, Op.intDiv, hb], by simp only [VRel]⟩
 case and => cases h; exact ⟨.int k (k.wrap (BitVec.ofInt k.bits a &&& BitVec.ofInt k.bits b).toNat), by simp [binOp, Op.intBits], by simp only [VRel]⟩
 case or => cases h; exact ⟨.int k (k.wrap (BitVec.ofInt k.bits a ||| BitVec.ofInt k.bits b).toNat), by simp [binOp, Op.intBits], by simp only [VRel]⟩
 case xor => cases h; exact ⟨.int k (k.wrap (BitVec.ofInt k.bits a ^^^ BitVec.ofInt k.bits b).toNat), by simp [binOp, Op.intBits], by simp only [VRel]⟩
 case andNot => cases h; exact ⟨.int k (k.wrap (BitVec.ofInt k.bits a &&& ~~~BitVec.ofInt k.bits b).toNat), by simp [binOp, Op.intBits], by simp only [VRel]⟩
 case shl => cases h
 case shr => cases h
 case eql => cases h; exact ⟨.bool (a == b), by simp [binOp, Op.intCmp], by simp only [VRel]⟩
 case neq => cases h; exact ⟨.bool (a != b), by simp [binOp, Op.intCmp], by simp only [VRel]⟩
 case lss => cases h; exact ⟨.bool (a < b), by simp [binOp, Op.intCmp], by simp only [VRel]⟩
 case leq => cases h; exact ⟨.bool (a ≤ b), by simp only [binOp, Op.intCmp, ne_eq, not_true_eq_false, if_false]; rfl, by simp only [VRel]⟩
 case gtr => cases h; exact ⟨.bool (a > b), by simp [binOp, Op.intCmp], by simp only [VRel]⟩
 case geq => cases h; exact ⟨.bool (a ≥ b), by simp [binOp, Op.intCmp], by simp only [VRel]⟩
theorem strBin_run (w : World) {op : BinOp} {t : TypeId} {a b : ByteArray} {v : AV} (h : strBin op a.data.toList b.data.toList = some v) :
  ∃ c, (binOp op t (.string a) (.string b)).run P w = .ok c w ∧ VRel C v none c := by
 cases op <;> simp only [strBin] at h
 case add =>
  split at h
  ·rename_i hb
   cases h
   refine ⟨.string (a ++ b), ?_, ?_⟩
   ·have hsz : ¬ (((a.size + b.size : Nat) : Int) > IntKind.i64.max) := by
     have h1 : a.size = a.data.toList.length := Array.length_toList.symm
     have h2 : b.size = b.data.toList.length := Array.length_toList.symm
     rw [h1, h2]
     have : IntKind.i64.max = 9223372036854775807 := by decide
     omega
    simp only [binOp, Op.stringOp, hsz, if_false]
    rfl
   ·simp only [VRel]
    exact ⟨_, rfl, by simp⟩
  ·cases h
 case eql => cases h; exact ⟨.bool (a.data.toList == b.data.toList), by simp only [binOp, Op.stringOp, ByteArray.toList_eq]; rfl, by simp only [VRel]⟩
 case neq => cases h; exact ⟨.bool !(a.data.toList == b.data.toList), by simp only [binOp, Op.stringOp, ByteArray.toList_eq]; rfl, by simp only [VRel]⟩
 case lss => cases h; exact ⟨.bool (Op.bytesLess a.data.toList b.data.toList), by simp only [binOp, Op.stringOp, ByteArray.toList_eq]; rfl, by simp only [VRel]⟩
 case leq => cases h; exact ⟨.bool (Op.bytesLess a.data.toList b.data.toList || a.data.toList == b.data.toList), by simp only [binOp, Op.stringOp, ByteArray.toList_eq]; rfl, by simp only [VRel]⟩
 case gtr => cases h; exact ⟨.bool !(Op.bytesLess a.data.toList b.data.toList || a.data.toList == b.data.toList), by simp only [binOp, Op.stringOp, ByteArray.toList_eq]; rfl, by simp only [VRel]⟩
 case geq => cases h; exact ⟨.bool !(Op.bytesLess a.data.toList b.data.toList), by simp only [binOp, Op.stringOp, ByteArray.toList_eq]; rfl, by simp only [VRel]⟩
 all_goals cases h
theorem eqGuard_other (w : World) {op : BinOp} {t : TypeId} {x y : Operand} {cx cy : Value} (h : op ≠ .eql ∧ op ≠ .neq) : (eqGuard op t x y cx cy).run P w = .ok () w := by
 cases op <;> simp_all [eqGuard]
theorem eqGuard_one (w : World) {op : BinOp} {t : TypeId} {x y : Operand} {cx cy : Value} (h : ¬ (cx = .nilIface ∧ cy = .nilIface)) (h' : ∀ a b, ¬ (cx = .agg a ∧ cy = .agg b)) :
  (eqGuard op t x y cx cy).run P w = .ok () w := by
 unfold eqGuard
 cases op <;> (try simp; done) <;> (cases cx <;> cases cy <;> first | (simp; done) | (exact absurd ⟨rfl, rfl⟩ h) | (exact absurd ⟨rfl, rfl⟩ (h' _ _)))
theorem eq_run_eql (hF : Fine P) (w : World) {t : TypeId} {vx vy : AV} {cx cy : Value} {r : Bool} (hx : VRel C vx none cx) (hy : VRel C vy none cy) (h : eqA P Op.maxDepth t vx vy = some r) :
  (Op.equal t cx cy).run P w = .ok r w := eqA_run hF w _ t vx vy cx cy r hx hy h
def plainKind : Value → Bool
 | .int _ _ | .float _ _ | .complex _ _ _ | .string _ => true
 | _ => false
theorem binOp_eql {t : TypeId} {cx cy : Value} (h : ¬ (plainKind cx = true ∧ plainKind cy = true)) : binOp .eql t cx cy = (do pure (.bool (← Op.equal t cx cy))) := by
 cases cx <;> cases cy <;> first | rfl | (exact absurd ⟨rfl, rfl⟩ h)
theorem binOp_neq {t : TypeId} {cx cy : Value} (h : ¬ (plainKind cx = true ∧ plainKind cy = true)) : binOp .neq t cx cy = (do pure (.bool (!(← Op.equal t cx cy)))) := by
 cases cx <;> cases cy <;> first | rfl | (exact absurd ⟨rfl, rfl⟩ h)
theorem eqA_kinds {m : Nat} {t : TypeId} {vx vy : AV} {cx cy : Value} {r : Bool} (hx : VRel C vx none cx) (hy : VRel C vy none cy) (h : eqA P m t vx vy = some r)
  (hi : ∀ k a k' b, ¬ (vx = .int k a ∧ vy = .int k' b)) (hs : ∀ a b, ¬ (vx = .str a ∧ vy = .str b)) (hn : ¬ (vx = .niliface ∧ vy = .niliface)) (ha : ∀ a b, ¬ (vx = .agg a ∧ vy = .agg b)) :
  ¬ (plainKind cx = true ∧ plainKind cy = true) ∧ ¬ (cx = .nilIface ∧ cy = .nilIface) ∧ ∀ a b, ¬ (cx = .agg a ∧ cy = .agg b) := by
 cases m with
 | zero => simp [eqA] at h
 | succ m =>
  unfold eqA at h
  split at h <;> (try simp only [VRel] at hx) <;> (try simp only [VRel] at hy)
  case h_2 => exact absurd ⟨rfl, rfl⟩ (hi _ _ _ _)
  case h_3 => exact absurd ⟨rfl, rfl⟩ (hs _ _)
  case h_7 => exact absurd ⟨rfl, rfl⟩ hn
  case h_23 => exact absurd ⟨rfl, rfl⟩ (ha _ _)
  case h_24 => exact absurd ⟨rfl, rfl⟩ (ha _ _)
  case h_25 => cases h
  all_goals
   (try obtain ⟨_, _, _, rfl, _⟩ := hx) <;> (try obtain ⟨_, _, rfl, _⟩ := hx) <;> (try obtain ⟨_, rfl, _⟩ := hx) <;> (try obtain ⟨rfl, _⟩ := hx)
  all_goals
   (try obtain ⟨_, _, _, rfl, _⟩ := hy) <;> (try obtain ⟨_, _, rfl, _⟩ := hy) <;> (try obtain ⟨_, rfl, _⟩ := hy) <;> (try obtain ⟨rfl, _⟩ := hy)
  all_goals (try subst hx) <;> (try subst hy) <;> simp [plainKind]
theorem binA_run (hF : Fine P) (w : World) {op : BinOp} {t : TypeId} {x y : Operand} {lit : Bool} {vx vy : AV} {cx cy : Value} {v : AV}
  (hl : lit = true → ((x matches .const _) || (y matches .const _)) = true)
  (hx : VRel C vx none cx) (hy : VRel C vy none cy) (h : binA P op t lit vx vy = some v) :
  ∃ c, (do eqGuard op t x y cx cy; binOp op t cx cy : Sem Value).run P w = .ok c w ∧ VRel C v none c := by
 unfold binA at h
 split at h
 case h_1 =>
  simp only [VRel] at hx hy; subst hx hy
  split at h
  ·cases h
  ·rename_i k a k' b hb
   cases h
   refine ⟨.int k (k.wrap (a * 2 ^ min b.toNat k.bits)), ?_, by simp only [VRel]⟩
   rw [Sem.run_bind, eqGuard_other w (by simp)]
   simp [binOp, Op.shift, hb]
 case h_2 =>
  simp only [VRel] at hx hy; subst hx hy
  split at h
  ·cases h
  ·rename_i k a k' b hb
   cases h
   refine ⟨.int k (a.fdiv (2 ^ min b.toNat k.bits)), ?_, by simp only [VRel]⟩
   rw [Sem.run_bind, eqGuard_other w (by simp)]
   simp [binOp, Op.shift, hb]
 case h_3 =>
  simp only [VRel] at hx hy; subst hx hy
  split at h
  ·rename_i k a k' b _ _ e
   subst e
   obtain ⟨c, hc, hv⟩ := intBin_run (P := P) (C := C) w (t := t) h
   exact ⟨c, by rw [Sem.run_bind, eqGuard_one w (by simp) (by simp)]; exact hc, hv⟩
  ·cases h
 case h_4 =>
  simp only [VRel] at hx hy
  obtain ⟨a, rfl, rfl⟩ := hx
  obtain ⟨b, rfl, rfl⟩ := hy
  obtain ⟨c, hc, hv⟩ := strBin_run (P := P) (C := C) w (t := t) h
  exact ⟨c, by rw [Sem.run_bind, eqGuard_one w (by simp) (by simp)]; exact hc, hv⟩
 case h_5 =>
  split at h
  ·rename_i hlt
   cases he : eqA P Op.maxDepth t .niliface .niliface with
   | none => rw [he] at h; cases h
   | some r =>
    rw [he] at h; cases h
    have hr := eq_run_eql hF w hx hy he
    simp only [VRel] at hx hy; subst hx hy
    have hg : (eqGuard .eql t x y .nilIface .nilIface).run P w = .ok () w := by
     have := hl hlt
     clear hl hr he
     cases x <;> cases y <;> first | (simp at this; done) | simp [eqGuard]
    exact ⟨.bool r, by rw [Sem.run_bind, hg]; simp [binOp, hr], by simp only [VRel]⟩
  ·cases h
 case h_6 =>
  split at h
  ·rename_i hlt
   cases he : eqA P Op.maxDepth t .niliface .niliface with
   | none => rw [he] at h; cases h
   | some r =>
    rw [he] at h; cases h
    have hr := eq_run_eql hF w hx hy he
    simp only [VRel] at hx hy; subst hx hy
    have hg : (eqGuard .neq t x y .nilIface .nilIface).run P w = .ok () w := by
     have := hl hlt
     clear hl hr he
     cases x <;> cases y <;> first | (simp at this; done) | simp [eqGuard]
    exact ⟨.bool !r, by rw [Sem.run_bind, hg]; simp [binOp, hr], by simp only [VRel]⟩
  ·cases h
 case h_7 xs ys =>
  split at h
  ·cases h
  ·rename_i hm
   cases he : eqA P Op.maxDepth t (.agg xs) (.agg ys) with
   | none => rw [he] at h; cases h
   | some r =>
    rw [he] at h; cases h
    have hr := eq_run_eql hF w hx hy he
    simp only [VRel] at hx hy
    obtain ⟨cx', rfl, _⟩ := hx
    obtain ⟨cy', rfl, _⟩ := hy
    refine ⟨.bool r, ?_, by simp only [VRel]⟩
    rw [Sem.run_bind, run_eqGuard_agg w _ _ _ _ _ _ (by simpa using hm)]
    simp [binOp, hr]
 case h_8 xs ys =>
  split at h
  ·cases h
  ·rename_i hm
   cases he : eqA P Op.maxDepth t (.agg xs) (.agg ys) with
   | none => rw [he] at h; cases h
   | some r =>
    rw [he] at h; cases h
    have hr := eq_run_eql hF w hx hy he
    simp only [VRel] at hx hy
    obtain ⟨cx', rfl, _⟩ := hx
    obtain ⟨cy', rfl, _⟩ := hy
    refine ⟨.bool !r, ?_, by simp only [VRel]⟩
    rw [Sem.run_bind, run_eqGuard_agg w _ _ _ _ _ _ (by simpa using hm)]
    simp [binOp, hr]
 case h_9 hi hs hn ha =>
  cases he : eqA P Op.maxDepth t vx vy with
  | none => rw [he] at h; cases h
  | some r =>
   rw [he] at h; cases h
   have hr := eq_run_eql hF w hx hy he
   obtain ⟨k1, k2, k3⟩ := eqA_kinds hx hy he (fun k a k' b ⟨e1, e2⟩ => hi k a k' b e1 e2) (fun a b ⟨e1, e2⟩ => hs a b e1 e2) (fun ⟨e1, e2⟩ => hn e1 e2) (fun a b ⟨e1, e2⟩ => ha a b e1 e2)
   exact ⟨.bool r, by rw [Sem.run_bind, eqGuard_one w k2 k3, binOp_eql k1]; simp [hr], by simp only [VRel]⟩
 case h_10 hi hs hn ha =>
  cases he : eqA P Op.maxDepth t vx vy with
  | none => rw [he] at h; cases h
  | some r =>
   rw [he] at h; cases h
   have hr := eq_run_eql hF w hx hy he
   obtain ⟨k1, k2, k3⟩ := eqA_kinds hx hy he (fun k a k' b ⟨e1, e2⟩ => hi k a k' b e1 e2) (fun a b ⟨e1, e2⟩ => hs a b e1 e2) (fun ⟨e1, e2⟩ => hn e1 e2) (fun a b ⟨e1, e2⟩ => ha a b e1 e2)
   exact ⟨.bool !r, by rw [Sem.run_bind, eqGuard_one w k2 k3, binOp_neq k1]; simp [hr], by simp only [VRel]⟩
 case h_11 => cases h
theorem unA_run (w : World) {op : UnOp} {vx : AV} {cx : Value} {v : AV} (hx : VRel C vx none cx) (h : unA op vx = some v) :
  ∃ c, (Op.unary op cx).run P w = .ok c w ∧ VRel C v none c := by
 unfold unA at h
 split at h
 ·rename_i k n
  simp only [VRel] at hx; subst hx; cases h; exact ⟨.int k (k.wrap (0 - n)), by simp only [Op.unary, Op.intArith]; rfl, by simp only [VRel]⟩
 ·rename_i k n
  simp only [VRel] at hx; subst hx; simp only [bitsA] at h; cases h
  exact ⟨.int k (k.wrap (BitVec.ofInt k.bits (if k.signed then -1 else k.max) ^^^ BitVec.ofInt k.bits n).toNat), by simp only [Op.unary, Op.intBits]; rfl, by simp only [VRel]⟩
 ·rename_i b
  simp only [VRel] at hx; subst hx; cases h; exact ⟨.bool !b, by simp only [Op.unary]; rfl, by simp only [VRel]⟩
 ·cases h
theorem cells_of_rows : ∀ {rows : List (List AV)} {b o es : Nat}, RowsRel C rows b o es → CellsRel C rows.flatten b o
 | [], _, _, _, _ => by simp [CellsRel]
 | r :: rs, b, o, es, h => by
  simp only [RowsRel] at h
  obtain ⟨hl, hc, hr⟩ := h
  have ih := cells_of_rows hr
  simp only [List.flatten_cons]
  clear hr
  subst hl
  induction r generalizing o with
  | nil => simpa using ih
  | cons v r ihr =>
   simp only [CellsRel] at hc
   simp only [List.cons_append, CellsRel]
   refine ⟨hc.1, ihr (o + 1) hc.2 ?_⟩
   simpa [Nat.add_comm 1, Nat.add_assoc] using ih
theorem rows_length : ∀ {rows : List (List AV)} {b o es : Nat}, RowsRel C rows b o es → rows.flatten.length = rows.length * es
 | [], _, _, _, _ => by simp
 | r :: rs, b, o, es, h => by
  simp only [RowsRel] at h
  simp [h.1, rows_length h.2.2, Nat.add_mul, Nat.add_comm]
def Vals (C : Ctx) (cs : List AV) (b o : Nat) : Prop :=
 ∃ vs : List Value, ListRel C cs none 0 vs ∧ (∀ x ∈ vs, flat x) ∧ ∀ (j : Nat) v, vs[j]? = some v → C.w.cell? ⟨b, o + j, none⟩ = some v
theorem Vals.nil (C : Ctx) (b o : Nat) : Vals C [] b o := ⟨[], by simp [ListRel], by simp, by simp⟩
theorem Vals.cons {v : AV} {cs : List AV} {b o : Nat} {c : Value} (h1 : C.w.cell? ⟨b, o, none⟩ = some c) (h3 : flat c) (h4 : VRel C v none c) (h : Vals C cs b (o + 1)) : Vals C (v :: cs) b o := by
 obtain ⟨vs, hv, hf, hc⟩ := h
 refine ⟨c :: vs, ?_, ?_, ?_⟩
 ·simp only [ListRel, sub, Option.map_none]
  exact ⟨c, vs, rfl, h4.none_lp, h4, ListRel.any _ _ _ _ _ hv⟩
 ·intro x hx
  rcases List.mem_cons.1 hx with rfl | hx
  ·exact h3
  ·exact hf x hx
 ·intro j v' hj
  cases j with
  | zero => simp at hj; subst hj; simpa using h1
  | succ j => rw [show o + (j + 1) = o + 1 + j by omega]; exact hc j v' (by simpa using hj)
theorem CellsRel.vals : ∀ {cs : List AV} {b o : Nat}, CellsRel C cs b o → Vals C cs b o
 | [], b, o, _ => Vals.nil C b o
 | v :: cs, b, o, h => by
  simp only [CellsRel] at h
  obtain ⟨⟨c, h1, h2, h3, h4⟩, hr⟩ := h
  exact Vals.cons h1 h3 h4 hr.vals
theorem add_none (b o n : Nat) : (⟨b, o, none⟩ : Addr).add n = ⟨b, o + n, none⟩ := by
 unfold Addr.add
 split <;> simp_all
theorem Vals.load {cs : List AV} {b o : Nat} (h : Vals C cs b o) : ∃ vs : List Value, ListRel C cs none 0 vs ∧ (∀ x ∈ vs, flat x) ∧ vs.length = cs.length ∧
  (loadCells ⟨b, o, none⟩ cs.length).run P C.w = .ok vs.toArray C.w := by
 obtain ⟨vs, hv, hf, hc⟩ := h
 refine ⟨vs, hv, hf, hv.length, ?_⟩
 rw [← hv.length]
 exact run_loadCells_list C.w _ vs (fun j v hj => by rw [add_none]; exact hc j v hj)
theorem Vals.drop {cs : List AV} {b o : Nat} (n : Nat) (h : Vals C cs b o) : Vals C (cs.drop n) b (o + n) := by
 obtain ⟨vs, hv, hf, hc⟩ := h
 refine ⟨vs.drop n, hv.drop n, fun x hx => hf x (List.mem_of_mem_drop hx), fun j v hj => ?_⟩
 rw [List.getElem?_drop] at hj
 rw [show o + n + j = o + (n + j) by omega]
 exact hc _ _ hj
theorem Vals.take {cs : List AV} {b o : Nat} (n : Nat) (h : Vals C cs b o) : Vals C (cs.take n) b o := by
 obtain ⟨vs, hv, hf, hc⟩ := h
 refine ⟨vs.take n, hv.take n, fun x hx => hf x (List.mem_of_mem_take hx), fun j v hj => ?_⟩
 rw [List.getElem?_take] at hj
 split at hj
 ·exact hc _ _ hj
 ·cases hj
theorem loadVar_run {t : TypeId} {cs : List AV} {b o : Nat} {v : AV} (h : Vals C cs b o) (hv : valAt P t cs = some v) :
  ∃ c, (loadVar t ⟨b, o, none⟩).run P C.w = .ok c C.w ∧ VRel C v none c := by
 cases hu : P.underlying t with
 | none => unfold valAt at hv; rw [hu] at hv; cases hv
 | some d =>
  rw [valAt_eq hu] at hv
  by_cases ha : aggD d = true
  ·rw [if_pos ha] at hv
   split at hv
   ·rename_i hlen
    cases hv
    obtain ⟨vs, h1, h2, h3, h4⟩ := (h.take (P.cellsOf t)).load (P := P)
    have hl : (cs.take (P.cellsOf t)).length = P.cellsOf t := by simp [hlen]
    rw [hl] at h4
    refine ⟨.agg vs.toArray, ?_, ?_⟩
    ·simp [loadVar, run_isAgg C.w t hu, ha, run_sizeOf_u C.w hu, h4]
    ·simp only [VRel]
     exact ⟨vs, rfl, h2, h1⟩
   ·cases hv
  ·rw [if_neg ha] at hv
   have ha' : aggD d = false := by simpa using ha
   obtain ⟨vs, h1, h2, h3⟩ := h
   cases cs with
   | nil => simp at hv
   | cons x cs =>
    simp at hv; subst hv
    simp only [ListRel, sub, Option.map_none] at h1
    obtain ⟨c, vs', rfl, _, hr, _⟩ := h1
    have hc := h3 0 c (by simp)
    refine ⟨c, ?_, hr⟩
    simp only [Nat.add_zero] at hc
    simp [loadVar, run_isAgg C.w t hu, ha', hc]
theorem bytes_load : ∀ {rows : List (List AV)} {bs : List UInt8}, bytesOf? rows = some bs → ∀ {vs : List Value}, ListRel C rows.flatten none 0 vs →
  ∃ ns : List Int, vs = ns.map (Value.int .u8) ∧ ns.map (fun n => UInt8.ofNat n.toNat) = bs ∧ rows.length = vs.length
 | [], _, h, vs, hv => by
  simp only [bytesOf?] at h; cases h
  simp only [List.flatten_nil, ListRel] at hv; subst hv
  exact ⟨[], rfl, rfl, rfl⟩
 | r :: rs, bs, h, vs, hv => by
  unfold bytesOf? at h
  split at h
  ·rename_i b bs' hb hbs
   cases h
   unfold byteOf? at hb
   split at hb
   ·rename_i n
    cases hb
    simp only [List.flatten_cons, List.cons_append, List.nil_append, ListRel, VRel] at hv
    obtain ⟨c, vs', rfl, _, rfl, hr⟩ := hv
    obtain ⟨ns, rfl, rfl, hl⟩ := bytes_load hbs (ListRel.any _ none _ 0 _ hr)
    exact ⟨n :: ns, rfl, rfl, by simpa using hl⟩
   ·cases hb
  ·cases h
theorem push_all : ∀ (ns : List Int) (s : ByteArray), (ns.foldl (fun r n => r.push (UInt8.ofNat n.toNat)) s).data.toList = s.data.toList ++ ns.map (fun n => UInt8.ofNat n.toNat)
 | [], s => by simp
 | n :: ns, s => by
  rw [List.foldl_cons, push_all ns]
  simp [ByteArray.push]
theorem bytesToString_run {rows : List (List AV)} {bs : List UInt8} {b o len cap : Nat} (hl : len = rows.length) (h : Vals C rows.flatten b o) (hb : bytesOf? rows = some bs) :
  ∃ c, (Conv.bytesToString (.slice (some ⟨b, o, none⟩) len cap)).run P C.w = .ok c C.w ∧ VRel C (.str bs) none c := by
 obtain ⟨vs, h1, h2, h3, h4⟩ := h.load (P := P)
 obtain ⟨ns, rfl, rfl, hl'⟩ := bytes_load hb h1
 have hln : len = rows.flatten.length := by rw [hl, hl', h3]
 refine ⟨_, run_bytesToString C.w _ len cap ns (by rw [hln]; exact h4), ?_⟩
 simp only [VRel]
 exact ⟨_, rfl, by rw [push_all]; simp⟩
end Go.Ab
namespace Go.Ab
variable {P : Program} {C : Ctx} {n : Nat}
def isAdr : AV → Bool
 | .ptr _ _ | .fptr _ | .aptr _ _ _ | .lptr _ _ => true
 | _ => false
theorem VRel.adr {v : AV} {d t t' : Nat} {c : Value} (ha : isAdr v = true) (h : VRel C v (some [d + 2, t]) c) : VRel C v (some [d + 2, t']) c := by
 cases v <;> simp [isAdr] at ha <;> simp only [VRel] at h ⊢ <;> try exact h
 obtain ⟨d', r, hp, hc⟩ := h
 obtain ⟨h1, h2⟩ := List.cons.inj (Option.some.inj hp)
 have e : d' = d := by omega
 exact ⟨d, [t'], rfl, by subst e; exact hc⟩
theorem adr_rel {d : Nat} {env : List AV} {tmps : Array Value} (h : EnvRel C d env tmps) (ds : List Deferred) (x : Operand) (t' : Nat) (ha : isAdr (adr env x) = true) :
  VRel C (adr env x) (some [d + 2, t']) (Act.eval { tmps, defers := ds } x) := by
 cases x with
 | tmp t =>
  have hv := h.getD t
  cases he : env.getD t .undef with
  | box cs =>
   rw [he] at hv
   simp only [VRel] at hv
   obtain ⟨d', s, hp, hc, _⟩ := hv
   obtain ⟨h1, h2⟩ := List.cons.inj (Option.some.inj hp)
   obtain ⟨h2, _⟩ := List.cons.inj h2
   have : d' = d := by omega
   subst this; subst h2
   have e2 : adr env (.tmp t) = .lptr t 0 := by simp only [adr, he]
   rw [e2]
   simp only [VRel]
   exact ⟨d', [t'], rfl, hc⟩
  | _ => simp only [adr, he] at ha hv ⊢; exact VRel.adr ha hv
 | _ => simp [adr, isAdr] at ha
theorem CellsRel.drop : ∀ {cs : List AV} {b o : Nat} (n : Nat), CellsRel C cs b o → CellsRel C (cs.drop n) b (o + n)
 | [], _, _, _, _ => by simp [CellsRel]
 | _ :: _, _, _, 0, h => by simpa using h
 | v :: cs, b, o, n + 1, h => by
  simp only [CellsRel] at h
  have := h.2.drop n
  rw [show o + (n + 1) = o + 1 + n by omega]
  simpa using this
theorem RowsRel.get : ∀ {rows : List (List AV)} {b o es : Nat}, RowsRel C rows b o es → ∀ {i : Nat} {r : List AV}, rows[i]? = some r → r.length = es ∧ CellsRel C r b (o + i * es)
 | [], _, _, _, _, _, _, h => by simp at h
 | r :: rs, b, o, es, hr, i, r', h => by
  simp only [RowsRel] at hr
  cases i with
  | zero => simp at h; subst h; simpa using ⟨hr.1, hr.2.1⟩
  | succ i =>
   have := hr.2.2.get (i := i) (r := r') (by simpa using h)
   rw [show o + (i + 1) * es = o + es + i * es by rw [Nat.add_mul]; omega]
   exact this
theorem RowsRel.drop : ∀ {rows : List (List AV)} {b o es : Nat} (n : Nat), RowsRel C rows b o es → RowsRel C (rows.drop n) b (o + n * es) es
 | [], _, _, _, _, _ => by simp [RowsRel]
 | _ :: _, _, _, _, 0, h => by simpa using h
 | r :: rs, b, o, es, n + 1, h => by
  simp only [RowsRel] at h
  have := h.2.2.drop n
  rw [show o + (n + 1) * es = o + es + n * es by rw [Nat.add_mul]; omega]
  simpa using this
theorem RowsRel.take : ∀ {rows : List (List AV)} {b o es : Nat} (n : Nat), RowsRel C rows b o es → RowsRel C (rows.take n) b o es
 | [], _, _, _, _, _ => by simp [RowsRel]
 | _ :: _, _, _, _, 0, _ => by simp [RowsRel]
 | r :: rs, b, o, es, n + 1, h => by
  simp only [RowsRel] at h
  simp only [List.take_succ_cons, RowsRel]
  exact ⟨h.1, h.2.1, h.2.2.take n⟩
theorem addOff_rel {a v : AV} {d t k : Nat} {c : Value} (h : VRel C a (some [d + 2, t]) c) (hv : addOff a k = some v) :
  ∃ b o, c = .pointer (some ⟨b, o, none⟩) ∧ VRel C v (some [d + 2, t]) (.pointer (some ⟨b, o + k, none⟩)) ∧ isAdr v = true := by
 unfold addOff at hv
 split at hv
 ·cases hv; simp only [VRel] at h ⊢; obtain ⟨rfl, hn⟩ := h; exact ⟨_, _, rfl, ⟨rfl, hn⟩, rfl⟩
 ·cases hv; simp only [VRel] at h ⊢; obtain ⟨d', r, hp, rfl⟩ := h; exact ⟨_, _, rfl, ⟨d', r, hp, rfl⟩, rfl⟩
 ·split at hv
  ·cases hv; simp only [VRel] at h ⊢; obtain ⟨b, o, rfl, hc⟩ := h; exact ⟨_, _, rfl, ⟨b, o + k, rfl, hc.drop k⟩, rfl⟩
  ·cases hv
 ·cases hv; simp only [VRel] at h ⊢; obtain ⟨rfl, hn⟩ := h; exact ⟨_, _, rfl, ⟨by simp [Nat.add_assoc], hn⟩, rfl⟩
 ·cases hv
theorem fieldOf_some {s : TypeId} {i : Nat} {f : Field} (h : fieldOf P s i = some f) : ∃ fs, P.underlying s = some (.struct fs) ∧ fs[i]? = some f := by
 unfold fieldOf at h
 split at h
 ·rename_i fs hu; exact ⟨fs, hu, h⟩
 ·cases h
theorem fieldAddr_run {s : TypeId} {a v : AV} {i d t : Nat} {c : Value} (h : VRel C a (some [d + 2, t]) c) (hv : fieldAddrA P s a i = some v) :
  ∃ c', (Instr.fieldAt s c i).run P C.w = .ok c' C.w ∧ VRel C v (some [d + 2, t]) c' ∧ isAdr v = true := by
 unfold fieldAddrA at hv
 split at hv
 ·rename_i f hf
  split at hv
  ·cases hv
  ·rename_i hz
   obtain ⟨fs, hu, hfs⟩ := fieldOf_some hf
   obtain ⟨b, o, rfl, hr, ha⟩ := addOff_rel h hv
   refine ⟨_, ?_, hr, ha⟩
   simp [Instr.fieldAt, run_underlying hu, hfs, Instr.sureAddr, fieldPlace, run_sizeOf_of C.w hz, hz, add_none]
 ·cases hv
theorem indexAddr_run {ty : TypeId} {x v i : AV} {d t : Nat} {cx ci : Value} (hx : VRel C x (some [d + 2, t]) cx) (hi : VRel C i none ci) (hv : indexAddrA P ty x i = some v) :
  ∃ c', (Instr.indexAt ty cx ci).run P C.w = .ok c' C.w ∧ VRel C v (some [d + 2, t]) c' ∧ isAdr v = true := by
 unfold indexAddrA at hv
 split at hv
 ·rename_i k i
  simp only [VRel] at hi; subst hi
  split at hv
  ·rename_i e own es rows hu
   split at hv
   ·rename_i hb
    obtain ⟨h0, h1, hes⟩ := hb
    simp only [VRel] at hx
    obtain ⟨b, o, cap, s, rfl, hl, he, hr, _, hs0⟩ := hx
    have hlt : i.toNat < rows.length := by omega
    obtain rfl : s = none := hs0.resolve_right (by omega)
    rw [List.getElem?_eq_getElem hlt] at hv
    cases hv
    have hne : P.cellsOf e ≠ 0 := by omega
    obtain ⟨_, hc⟩ := hr.get (List.getElem?_eq_getElem hlt)
    refine ⟨.pointer (some ⟨b, o + i.toNat * es, none⟩), ?_, ?_, rfl⟩
    ·simp only [Instr.indexAt, asIntOf, Sem.run_bind, Sem.run_pure, Result.andThen_ok, run_underlying hu]
     have : (0 ≤ i ∧ i < ((rows.length : Nat) : Int)) := ⟨h0, h1⟩
     simp [this.1, h1, run_sizeOf_of C.w hne, add_none, hes]
    ·simp only [VRel]; exact ⟨b, _, rfl, hc⟩
   ·cases hv
  ·rename_i e id es off len hu
   split at hv
   ·rename_i hb
    obtain ⟨h0, h1, hes, hpos⟩ := hb
    cases hv
    simp only [VRel] at hx
    obtain ⟨b, o, cap, rfl, hl, hk, hn, hs, ha⟩ := hx
    have hcap : cap ≠ 0 := by omega
    obtain ⟨rfl, rfl⟩ := ha.resolve_left hcap
    have hne : P.cellsOf e ≠ 0 := by omega
    refine ⟨.pointer (some ⟨C.φ id, C.ψ id + (off + i.toNat) * C.σ id + 0, none⟩), ?_, ?_, rfl⟩
    ·simp [Instr.indexAt, asIntOf, run_underlying hu, h0, h1, run_sizeOf_of C.w hne, add_none, hs, hes, Nat.add_mul, Nat.add_assoc]
    ·simp only [VRel]; exact ⟨trivial, hn⟩
   ·cases hv
  ·rename_i e id es off len hu
   split at hv
   ·rename_i hb
    obtain ⟨h0, h1, hes, hpos⟩ := hb
    cases hv
    simp only [VRel] at hx
    obtain ⟨b, o, rfl, hk, hn, hs, ha⟩ := hx
    obtain ⟨rfl, rfl⟩ := ha.resolve_left (by omega)
    have hne : P.cellsOf e ≠ 0 := by omega
    refine ⟨.pointer (some ⟨C.φ id, C.ψ id + (off + i.toNat) * C.σ id + 0, none⟩), ?_, ?_, rfl⟩
    ·simp [Instr.indexAt, asIntOf, run_underlying hu, h0, h1, run_sizeOf_of C.w hne, add_none, hs, hes, Nat.add_mul, Nat.add_assoc]
    ·simp only [VRel]; exact ⟨trivial, hn⟩
   ·cases hv
  ·rename_i len e hu
   split at hv
   ·rename_i hb
    obtain ⟨h0, h1, hz⟩ := hb
    obtain ⟨b, o, rfl, hr, ha⟩ := addOff_rel hx hv
    refine ⟨_, ?_, hr, ha⟩
    have hne : P.cellsOf e ≠ 0 := by omega
    simp [Instr.indexAt, asIntOf, run_underlying hu, Instr.sureAddr, h0, h1, run_sizeOf_of C.w hne, add_none]
   ·cases hv
  ·cases hv
 ·cases hv
theorem index_run {ty : TypeId} {x v i : AV} {cx ci : Value} (hx : VRel C x none cx) (hi : VRel C i none ci) (hv : indexA P ty x i = some v) :
  ∃ c', (Instr.index ty cx ci).run P C.w = .ok c' C.w ∧ VRel C v none c' := by
 unfold indexA at hv
 split at hv
 ·rename_i k i
  simp only [VRel] at hi; subst hi
  split at hv
  ·rename_i s hu
   simp only [VRel] at hx
   obtain ⟨b, rfl, rfl⟩ := hx
   split at hv
   ·rename_i h0
    cases hg : b.data.toList[i.toNat]? with
    | none => rw [hg] at hv; cases hv
    | some u =>
     rw [hg] at hv; cases hv
     refine ⟨.int .u8 u.toNat, ?_, by simp only [VRel]⟩
     have hlt : i.toNat < b.size := by
      have := (List.getElem?_eq_some_iff.1 hg).1
      simpa using this
     have hb : b[i.toNat]? = some u := by
      rw [ByteArray.getElem?_lt' b _ hlt]
      have := (List.getElem?_eq_some_iff.1 hg).2
      rw [← this]
      rfl
     simp [Instr.index, asIntOf, run_underlying hu, h0, hb]
   ·cases hv
  ·rename_i len e cs hu
   simp only [VRel] at hx
   obtain ⟨cs', rfl, hf, hr⟩ := hx
   split at hv
   ·rename_i hb
    obtain ⟨c, hc, hvc⟩ := part_run C.w hr hf _ hv
    refine ⟨c, ?_, hvc⟩
    have hsz : ∃ d', P.underlying e = some d' := by
     cases hu' : P.underlying e with
     | none => unfold valAt at hv; rw [hu'] at hv; cases hv
     | some d' => exact ⟨d', rfl⟩
    obtain ⟨d', hd'⟩ := hsz
    simp [Instr.index, asIntOf, run_underlying hu, hb.1, hb.2, run_sizeOf_u C.w hd', hc]
   ·cases hv
  ·cases hv
 ·cases hv
theorem field_run {ty : TypeId} {x v : AV} {i : Nat} {cx : Value} (hx : VRel C x none cx) (hv : fieldA P ty x i = some v) :
  ∃ c', (Instr.field ty cx i).run P C.w = .ok c' C.w ∧ VRel C v none c' := by
 unfold fieldA at hv
 split at hv
 ·rename_i f cs hf
  obtain ⟨fs, hu, hfs⟩ := fieldOf_some hf
  simp only [VRel] at hx
  obtain ⟨cs', rfl, hfl, hr⟩ := hx
  obtain ⟨c, hc, hvc⟩ := part_run C.w hr hfl _ hv
  exact ⟨c, by simp [Instr.field, run_underlying hu, hfs, asAgg, hc], hvc⟩
 ·cases hv
theorem pair_rel {v : AV} {c : Value} {b : Bool} (h : VRel C v none c) : VRel C (.tup [v, .bool b]) none (.tuple #[c, .bool b]) := by
 simp only [VRel]
 refine ⟨[c, .bool b], rfl, ?_⟩
 simp only [ListRel]
 exact ⟨c, _, rfl, h.none_lp, h, .bool b, [], rfl, rfl, by simp only [VRel], rfl⟩
theorem assert_run {x v : AV} {xt t : TypeId} {ok : Bool} {cx : Value} (hx : VRel C x none cx) (hv : assertA P x t ok = some v) :
  ∃ c', (Instr.typeAssert cx xt t ok).run P C.w = .ok c' C.w ∧ VRel C v none c' := by
 unfold assertA at hv
 have hz : ∀ z, zeroA P t = some z → ∃ c, (zeroValue t).run P C.w = .ok c C.w ∧ VRel C z none c ∧ isPl z = false := by
  intro z hz
  unfold zeroA at hz
  split at hz
  ·rename_i i hi
   split at hz
   ·rename_i z0 hz0
    split at hz
    ·cases hz
     exact ⟨z0, by simp [zeroValue, typeInfo, hi, hz0], (ofConst_rel C none z0).1, (ofConst_rel C none z0).2⟩
    ·cases hz
   ·cases hz
  ·cases hz
 split at hv
 ·cases hv
 ·rename_i d t' v' hni hu
  simp only [VRel] at hx
  obtain ⟨c', rfl, hr⟩ := hx
  have hnd : ∀ ms, d ≠ .interface ms := fun ms e => hni ms (by rw [e])
  split at hv
  ·rename_i e
   subst e
   cases hv
   cases ok
   ·refine ⟨c', ?_, hr⟩
    unfold Instr.typeAssert
    rw [Sem.run_bind, run_underlying hu]
    cases d <;> first | exact absurd rfl (hnd _) | simp
   ·refine ⟨.tuple #[c', .bool true], ?_, ?_⟩
    ·unfold Instr.typeAssert
     rw [Sem.run_bind, run_underlying hu]
     cases d <;> first | exact absurd rfl (hnd _) | simp
    ·exact pair_rel hr
  ·rename_i hne
   split at hv
   ·rename_i hok
    subst hok
    cases hz' : zeroA P t with
    | none => rw [hz'] at hv; cases hv
    | some z =>
     rw [hz'] at hv; cases hv
     obtain ⟨c, hc, hzr, _⟩ := hz z hz'
     refine ⟨.tuple #[c, .bool false], ?_, ?_⟩
     ·unfold Instr.typeAssert
      rw [Sem.run_bind, run_underlying hu]
      cases d <;> first | exact absurd rfl (hnd _) | simp [hne, hc]
     ·exact pair_rel hzr
   ·cases hv
 ·rename_i d hni hu
  simp only [VRel] at hx; subst hx
  have hnd : ∀ ms, d ≠ .interface ms := fun ms e => hni ms (by rw [e])
  split at hv
  ·rename_i hok
   subst hok
   cases hz' : zeroA P t with
   | none => rw [hz'] at hv; cases hv
   | some z =>
    rw [hz'] at hv; cases hv
    obtain ⟨c, hc, hzr, _⟩ := hz z hz'
    refine ⟨.tuple #[c, .bool false], ?_, ?_⟩
    ·unfold Instr.typeAssert
     rw [Sem.run_bind, run_underlying hu]
     cases d <;> first | exact absurd rfl (hnd _) | simp [hc]
    ·exact pair_rel hzr
  ·cases hv
 ·cases hv
theorem min2_run {x y v : AV} {cx cy : Value} (hx : VRel C x none cx) (hy : VRel C y none cy) (hv : min2 x y = some v) :
  ∃ c, (Builtin.min2 cx cy).run P C.w = .ok c C.w ∧ VRel C v none c := by
 unfold min2 at hv
 split at hv
 ·rename_i k a k' b
  simp only [VRel] at hx hy; subst hx hy; cases hv
  exact ⟨.int k (if b < a then b else a), by simp [Builtin.min2], by simp only [VRel]⟩
 ·cases hv
theorem max2_run {x y v : AV} {cx cy : Value} (hx : VRel C x none cx) (hy : VRel C y none cy) (hv : max2 x y = some v) :
  ∃ c, (Builtin.max2 cx cy).run P C.w = .ok c C.w ∧ VRel C v none c := by
 unfold max2 at hv
 split at hv
 ·rename_i k a k' b
  simp only [VRel] at hx hy; subst hx hy; cases hv
  exact ⟨.int k (if b > a then b else a), by simp [Builtin.max2], by simp only [VRel]⟩
 ·cases hv
theorem fold_run {g : AV → AV → Option AV} {G : Value → Value → Sem Value} (hg : ∀ x y v cx cy, VRel C x none cx → VRel C y none cy → g x y = some v → ∃ c, (G cx cy).run P C.w = .ok c C.w ∧ VRel C v none c) :
  ∀ (l : List AV) (x : AV) (cx : Value) (cl : List Value) (i : Nat) (v : AV), VRel C x none cx → ListRel C l none i cl → foldA g (x :: l) = some v →
   ∃ c, (cl.foldlM G cx).run P C.w = .ok c C.w ∧ VRel C v none c
 | [], x, cx, cl, i, v, hx, hl, h => by
  simp only [ListRel] at hl; subst hl
  simp only [foldA, foldB] at h; cases h
  exact ⟨cx, rfl, hx⟩
 | y :: l, x, cx, cl, i, v, hx, hl, h => by
  simp only [ListRel, sub, Option.map_none] at hl
  obtain ⟨cy, cl', rfl, _, hy, hr⟩ := hl
  simp only [foldA, foldB] at h
  split at h
  ·rename_i z hz
   obtain ⟨c, hc, hcz⟩ := hg _ _ _ _ _ hx hy hz
   obtain ⟨c', hc', hv⟩ := fold_run hg l z c cl' (i + 1) v hcz hr h
   exact ⟨c', by simp [List.foldlM_cons, hc, hc'], hv⟩
  ·cases h
end Go.Ab
namespace Go.Ab
variable {P : Program} {C : Ctx} {n : Nat}
def Got (C : Ctx) (d : Nat) (cons : List Tmp) (dst : Tmp) (v : AV) (c : Value) : Prop :=
 ∃ g : List Nat → List Nat, g froz = froz ∧ g [] = [] ∧ (∀ r, g (1 :: r) = 1 :: r) ∧ (∀ l, ¬ Deep d l → g l = l) ∧
  (∀ t, t ∉ cons → ∀ r, g ((d + 2) :: t :: r) = (d + 2) :: t :: r) ∧ VRel (C.map g) v (some [d + 2, dst]) c
theorem Ctx.map_id (C : Ctx) : C.map id = C := rfl
theorem Got.here {d : Nat} {cons : List Tmp} {dst : Tmp} {v : AV} {c : Value} (h : VRel C v (some [d + 2, dst]) c) : Got C d cons dst v c :=
 ⟨id, rfl, rfl, fun _ => rfl, fun _ _ => rfl, fun _ _ _ => rfl, h⟩
theorem Got.plain {d : Nat} {cons : List Tmp} {dst : Tmp} {v : AV} {c : Value} (h : VRel C v none c) : Got C d cons dst v c := Got.here (VRel.any _ _ _ h)
def mv (d t dst : Nat) : List Nat → List Nat
 | k :: t' :: r => if k = d + 2 ∧ t' = t then (d + 2) :: dst :: r else k :: t' :: r
 | l => l
theorem mv_froz (d t dst : Nat) : mv d t dst froz = froz := rfl
theorem mv_heap (d t dst : Nat) (r : List Nat) : mv d t dst (1 :: r) = 1 :: r := by
 cases r with
 | nil => rfl
 | cons a r => simp only [mv]; rw [if_neg (by omega)]
theorem mv_deep (d t dst : Nat) (l : List Nat) (h : ¬ Deep d l) : mv d t dst l = l := by
 match l with
 | [] => rfl
 | [_] => rfl
 | k :: t' :: r =>
  simp only [mv]
  rw [if_neg]
  rintro ⟨rfl, _⟩
  exact h ⟨d + 2, t' :: r, rfl, .inr (Nat.le_refl _)⟩
theorem mv_other (d t dst t' : Nat) (h : t' ≠ t) (r : List Nat) : mv d t dst ((d + 2) :: t' :: r) = (d + 2) :: t' :: r := by
 simp only [mv]; rw [if_neg (by simp [h])]
theorem mv_same (d t dst : Nat) (r : List Nat) : mv d t dst ((d + 2) :: t :: r) = (d + 2) :: dst :: r := by
 simp only [mv]; rw [if_pos (by simp)]
theorem Got.from {d : Nat} {cons : List Tmp} {dst t : Tmp} {v : AV} {c : Value} (ht : t ∈ cons) (h : VRel C v (some [d + 2, t]) c) (hp : isPl v = false) : Got C d cons dst v c := by
 refine ⟨mv d t dst, mv_froz d t dst, rfl, mv_heap d t dst, mv_deep d t dst, fun t' ht' r => mv_other d t dst t' (fun e => ht' (e ▸ ht)) r, ?_⟩
 exact VRel.map (mv_froz d t dst) v _ _ c (.inr ⟨_, _, rfl, rfl, fun r => by simpa using mv_same d t dst r⟩) (isPl_lp hp) (fun hb => absurd hb (by simp [isPl_bx hp])) h
theorem toList_extract (b : ByteArray) (l h : Nat) : (b.extract l h).data.toList = (b.data.toList.take h).drop l := by
 rw [ByteArray.data_extract, Array.toList_extract, List.drop_take]
def ORel (C : Ctx) : Option AV → Option Value → Prop
 | none, none => True
 | some v, some c => VRel C v none c
 | _, _ => False
theorem bound_some {x : AV} {c : Value} (hr : VRel C x none c) {dflt k y : Nat} {code : BoundsCode} (h : boundA dflt (some x) = some k) (hk : k ≤ y) :
  (Instr.sliceBound c y code).run P C.w = .ok k C.w := by
 unfold boundA at h
 split at h
 ·rename_i e; cases e
 ·rename_i kk nn e
  cases e
  split at h
  ·rename_i h0
   cases h
   simp only [VRel] at hr; subst hr
   exact run_sliceBound C.w kk nn y code h0 (by omega)
  ·cases h
 ·cases h
theorem bounds_run {isS : Bool} {lo hi : Option AV} {clo chi : Option Value} (hlo : ORel C lo clo) (hhi : ORel C hi chi) {len cap l h : Nat}
  (h1 : boundA 0 lo = some l) (h2 : boundA len hi = some h) (hlh : l ≤ h) (hhl : h ≤ len) (hlc : len ≤ cap) :
  (Instr.sliceBounds isS len cap clo chi none).run P C.w = .ok (l, h, cap) C.w := by
 have hb2 : ∀ code, (match chi with | some v => Instr.sliceBound v cap code | none => pure len).run P C.w = .ok h C.w := by
  intro code
  cases hi with
  | none => cases chi with
   | none => simp only [boundA] at h2; cases h2; rfl
   | some _ => exact hhi.elim
  | some x => cases chi with
   | none => exact hhi.elim
   | some c => exact bound_some hhi h2 (by omega)
 have hb1 : ∀ code, (match clo with | some v => Instr.sliceBound v h code | none => pure 0).run P C.w = .ok l C.w := by
  intro code
  cases lo with
  | none => cases clo with
   | none => simp only [boundA] at h1; cases h1; rfl
   | some _ => exact hlo.elim
  | some x => cases clo with
   | none => exact hlo.elim
   | some c => exact bound_some hlo h1 hlh
 unfold Instr.sliceBounds
 cases chi with
 | none =>
  have e2 := hb2 .index
  simp only [Sem.run_pure, Result.ok.injEq, and_true] at e2
  subst e2
  cases clo with
  | none =>
   have e1 := hb1 .index
   simp only [Sem.run_pure, Result.ok.injEq, and_true] at e1
   subst e1
   simp
  | some x =>
   have e1 := hb1 .sliceB
   simp only at e1
   simp [e1]
 | some y =>
  have e2 := fun code => hb2 code
  simp only at e2
  cases clo with
  | none =>
   have e1 := hb1 .index
   simp only [Sem.run_pure, Result.ok.injEq, and_true] at e1
   subst e1
   simp [e2]
  | some x =>
   have e1 := hb1 .sliceB
   simp only at e1
   simp [e1, e2]
theorem bounds3_run {lo : Option AV} {x m : AV} {clo : Option Value} {cx cm : Value} (hlo : ORel C lo clo) (hx : VRel C x none cx) (hm : VRel C m none cm) {len cap l h k : Nat}
  (h1 : boundA 0 lo = some l) (h2 : boundA len (some x) = some h) (h3 : boundA 0 (some m) = some k) (hlh : l ≤ h) (hhk : h ≤ k) (hkc : k ≤ cap) :
  (Instr.sliceBounds true len cap clo (some cx) (some cm)).run P C.w = .ok (l, h, k) C.w := by
 have e3 := fun code => bound_some (P := P) (code := code) (y := cap) hm h3 hkc
 have e2 := fun code => bound_some (P := P) (code := code) (y := k) hx h2 hhk
 unfold Instr.sliceBounds
 cases lo with
 | none => cases clo with
  | none => simp only [boundA] at h1; cases h1; simp [e2, e3]
  | some _ => exact hlo.elim
 | some y => cases clo with
  | none => exact hlo.elim
  | some c =>
   have e1 := fun code => bound_some (P := P) (code := code) (y := h) hlo h1 hlh
   simp [e1, e2, e3]
theorem sliceAt_slice (w : World) {t e : TypeId} (hu : P.underlying t = some (.slice e)) (x : Value) (lo hi mx : Option Value) : (Instr.sliceAt t x lo hi mx).run P w = (Instr.slice t x lo hi mx).run P w := by
 simp [Instr.sliceAt, run_underlying hu]
theorem sliceAt_string (w : World) {t : TypeId} (hu : P.underlying t = some .string) (x : Value) (lo hi mx : Option Value) : (Instr.sliceAt t x lo hi mx).run P w = (Instr.slice t x lo hi mx).run P w := by
 simp [Instr.sliceAt, run_underlying hu]
theorem slice_run {t : TypeId} {x v : AV} {lo hi mx : Option AV} {cx : Value} {clo chi cmx : Option Value} {q : List Nat} (hx : VRel C x (some q) cx) (hlo : ORel C lo clo) (hhi : ORel C hi chi) (hmx : ORel C mx cmx)
  (hv : sliceA P t x lo hi mx = some v) : ∃ c, (Instr.sliceAt t cx clo chi cmx).run P C.w = .ok c C.w ∧ VRel C v (some q) c ∧ isPl v = false := by
 unfold sliceA at hv
 split at hv
 ·rename_i s hu
  simp only [VRel] at hx
  obtain ⟨b, rfl, rfl⟩ := hx
  split at hv
  ·rename_i l h h1 h2
   split at hv
   ·rename_i hb
    cases hv
    cases cmx with
    | some _ => exact hmx.elim
    | none =>
     have hsz : b.data.toList.length = b.size := Array.length_toList
     have hbr := bounds_run (P := P) (isS := false) (cap := b.data.toList.length) hlo hhi h1 h2 hb.1 hb.2 (Nat.le_refl _)
     rw [hsz] at hbr
     refine ⟨.string (b.extract l h), ?_, ?_, rfl⟩
     ·rw [sliceAt_string C.w hu]
      simp [Instr.slice, run_underlying hu, hbr]
     ·simp only [VRel]
      exact ⟨_, rfl, toList_extract b l h⟩
   ·cases hv
  ·cases hv
 ·rename_i e own es rows hu
  simp only [VRel] at hx
  obtain ⟨b, o, cap, s, rfl, hlen, hes, hr, hown, hs0⟩ := hx
  split at hv
  ·rename_i l h h1 h2
   split at hv
   ·rename_i hb
    obtain ⟨hlh, hhl, hee⟩ := hb
    have hne : P.cellsOf e ≠ 0 := by omega
    have hrows : RowsRel C ((rows.take h).drop l) b (o + l * es) es := (hr.take h).drop l
    have hlen' : ((rows.take h).drop l).length = h - l := by simp [List.length_take]; omega
    split at hv
    ·cases hv
     cases cmx with
     | some _ => exact hmx.elim
     | none =>
      have hbr := bounds_run (P := P) (isS := true) (cap := cap) hlo hhi h1 h2 hlh hhl hlen
      refine ⟨.slice (some (if cap = l then ⟨b, o, s⟩ else ⟨b, o + l * es, none⟩)) (h - l) (cap - l), ?_, ?_, rfl⟩
      ·rw [sliceAt_slice C.w hu]
       simp only [Instr.slice, Sem.run_bind, run_underlying hu, Result.andThen_ok, hbr, run_sizeOf_of C.w hne, Sem.run_pure]
       by_cases hcl : cap = l
       ·simp [hcl]
       ·obtain rfl : s = none := hs0.resolve_right (by omega)
        simp [hcl, add_none, hee]
      ·simp only [VRel]
       by_cases hcl : cap = l
       ·have hh : h = l := by omega
        subst hh
        have hnil : (rows.take h).drop h = [] := List.eq_nil_of_length_eq_zero (by rw [hlen']; omega)
        rw [if_pos hcl, hnil]
        refine ⟨b, o, cap - h, s, by simp, by simp, hes, by simp [RowsRel], fun ho => ⟨q, rfl, ?_, fun hn => absurd rfl hn⟩, .inr (by omega)⟩
        refine ⟨fun hlt => ?_, fun x a1 a2 => ?_⟩
        ·simp [hcl] at hlt
        ·simp [hcl] at a1 a2; omega
       ·rw [if_neg hcl]
        refine ⟨b, o + l * es, cap - l, none, by rw [hlen'], by rw [hlen']; omega, hes, hrows, fun ho => ?_, .inl rfl⟩
        simp only [Bool.and_eq_true, beq_iff_eq] at ho
        obtain ⟨q', hq', hs, hbb⟩ := hown ho.1
        refine ⟨q', hq', ?_, fun hn => hbb (fun e => hn (by rw [e]; simp))⟩
        have e1 : o + l * es + ((rows.take h).drop l).length * es = o + rows.length * es := by
         rw [hlen', ho.2, Nat.add_assoc, ← Nat.add_mul]; congr 2; omega
        have e2 : o + l * es + (cap - l) * es = o + cap * es := by
         rw [Nat.add_assoc, ← Nat.add_mul]; congr 2; omega
        rw [e1, e2]
        exact hs
    ·rename_i m
     split at hv
     ·rename_i k yy hk
      split at hv
      ·rename_i hkh
       cases hv
       cases cmx with
       | none => exact hmx.elim
       | some cm =>
        cases chi with
        | none => exact hhi.elim
        | some cy =>
         subst hkh
         have hbr := bounds3_run (P := P) (cap := cap) hlo hhi hmx h1 h2 hk hlh (Nat.le_refl _) (by omega)
         refine ⟨.slice (some (if k = l then ⟨b, o, s⟩ else ⟨b, o + l * es, none⟩)) (k - l) (k - l), ?_, ?_, rfl⟩
         ·rw [sliceAt_slice C.w hu]
          simp only [Instr.slice, Sem.run_bind, run_underlying hu, Result.andThen_ok, hbr, run_sizeOf_of C.w hne, Sem.run_pure]
          by_cases hcl : k = l
          ·simp [hcl]
          ·obtain rfl : s = none := hs0.resolve_right (by omega)
           simp [hcl, add_none, hee]
         ·simp only [VRel]
          by_cases hcl : k = l
          ·subst hcl
           have hnil : (rows.take k).drop k = [] := List.eq_nil_of_length_eq_zero (by rw [hlen']; omega)
           rw [if_pos rfl, hnil]
           refine ⟨b, o, 0, s, by simp, by simp, hes, by simp [RowsRel], fun ho => ⟨q, rfl, ?_, fun hn => absurd rfl hn⟩, .inr rfl⟩
           exact ⟨fun hlt => by simp at hlt, fun x a1 a2 => by simp at a1 a2; omega⟩
          ·rw [if_neg hcl]
           refine ⟨b, o + l * es, k - l, none, by rw [hlen'], by rw [hlen']; omega, hes, hrows, fun ho => ⟨q, rfl, ?_, fun hn => ?_⟩, .inl rfl⟩
           ·rw [hlen']
            exact ⟨fun hlt => by omega, fun x a1 a2 => by omega⟩
           ·have ho' : own = true := by
             rcases Bool.or_eq_true _ _ ▸ ho with h | h
             ·exact h
             ·exact absurd (by simpa using h) hcl
            obtain ⟨_, _, _, hbb⟩ := hown ho'
            exact hbb (fun e => hn (by rw [e]; simp))
      ·cases hv
     ·cases hv
   ·cases hv
  ·cases hv
 ·rename_i e id es off len hu
  simp only [VRel] at hx
  obtain ⟨b, o, cap, rfl, hlen, hk, hn, hs, ha⟩ := hx
  split at hv
  ·rename_i l h h1 h2
   split at hv
   ·rename_i hb
    obtain ⟨hlh, hhl, hee, hpos⟩ := hb
    cases hv
    cases cmx with
    | some _ => exact hmx.elim
    | none =>
     have hne : P.cellsOf e ≠ 0 := by omega
     have hbr := bounds_run (P := P) (isS := true) (cap := cap) hlo hhi h1 h2 hlh hhl hlen
     refine ⟨.slice (some (if cap = l then ⟨b, o, none⟩ else ⟨b, o + l * es, none⟩)) (h - l) (cap - l), ?_, ?_, rfl⟩
     ·rw [sliceAt_slice C.w hu]
      simp only [Instr.slice, Sem.run_bind, run_underlying hu, Result.andThen_ok, hbr, run_sizeOf_of C.w hne, Sem.run_pure]
      by_cases hcl : cap = l
      ·simp [hcl]
      ·simp [hcl, add_none, hee]
     ·simp only [VRel]
      by_cases hcl : cap = l
      ·rw [if_pos hcl]
       exact ⟨b, o, cap - l, rfl, by omega, by omega, hn, hs, .inl (by omega)⟩
      ·rw [if_neg hcl]
       refine ⟨b, o + l * es, cap - l, rfl, by omega, by omega, hn, hs, .inr ?_⟩
       have hc0 : cap ≠ 0 := by omega
       obtain ⟨rfl, rfl⟩ := ha.resolve_left hc0
       exact ⟨rfl, by rw [hs, Nat.add_mul]; omega⟩
   ·cases hv
  ·rename_i k0 h1 h2
   split at hv
   ·rename_i yy
    split at hv
    ·rename_i hpos
     cases hv
     cases cmx with
     | none => exact hmx.elim
     | some cm =>
      cases chi with
      | none => exact hhi.elim
      | some cy =>
       have hne : P.cellsOf e ≠ 0 := by omega
       have hbr := bounds3_run (P := P) (cap := cap) hlo hhi hmx h1 h2 (show boundA 0 (some (.int k0 0)) = some 0 from by simp [boundA]) (Nat.le_refl _) (Nat.le_refl _) (Nat.zero_le _)
       refine ⟨.slice (some ⟨b, o, none⟩) 0 0, ?_, ?_, rfl⟩
       ·rw [sliceAt_slice C.w hu]
        simp only [Instr.slice, Sem.run_bind, run_underlying hu, Result.andThen_ok, hbr, run_sizeOf_of C.w hne, Sem.run_pure]
        simp
       ·simp only [VRel]
        refine ⟨b, o, 0, none, rfl, by simp, by omega, by simp [RowsRel], fun ho => ⟨q, rfl, ?_, fun hn => absurd rfl hn⟩, .inr rfl⟩
        exact ⟨fun hlt => by simp at hlt, fun x a1 a2 => by simp at a1 a2; omega⟩
    ·cases hv
   ·cases hv
  ·rename_i l h m hnn h1 h2
   split at hv
   ·rename_i yy
    split at hv
    ·rename_i hb
     obtain ⟨hlh, hhl, hbm, hee, hpos⟩ := hb
     cases hv
     cases cmx with
     | none => exact hmx.elim
     | some cm =>
      cases chi with
      | none => exact hhi.elim
      | some cy =>
       have hne : P.cellsOf e ≠ 0 := by omega
       have hbr := bounds3_run (P := P) (cap := cap) hlo hhi hmx h1 h2 hbm hlh (Nat.le_refl _) (by omega)
       refine ⟨.slice (some (if h = l then ⟨b, o, none⟩ else ⟨b, o + l * es, none⟩)) (h - l) (h - l), ?_, ?_, rfl⟩
       ·rw [sliceAt_slice C.w hu]
        simp only [Instr.slice, Sem.run_bind, run_underlying hu, Result.andThen_ok, hbr, run_sizeOf_of C.w hne, Sem.run_pure]
        by_cases hcl : h = l
        ·simp [hcl]
        ·simp [hcl, add_none, hee]
       ·simp only [VRel]
        by_cases hcl : h = l
        ·rw [if_pos hcl]
         exact ⟨b, o, rfl, by omega, hn, hs, .inl (by omega)⟩
        ·rw [if_neg hcl]
         refine ⟨b, o + l * es, rfl, by omega, hn, hs, .inr ?_⟩
         have hc0 : cap ≠ 0 := by omega
         obtain ⟨rfl, rfl⟩ := ha.resolve_left hc0
         exact ⟨rfl, by rw [hs, Nat.add_mul]; omega⟩
    ·cases hv
   ·cases hv
  ·cases hv
 ·rename_i e hu
  simp only [VRel] at hx
  subst hx
  split at hv
  ·rename_i h1 h2
   split at hv
   ·cases hv
   ·rename_i hne
    cases hv
    cases cmx with
    | some _ => exact hmx.elim
    | none =>
     have hbr := bounds_run (P := P) (isS := true) (cap := 0) hlo hhi h1 h2 (Nat.le_refl _) (Nat.le_refl _) (Nat.le_refl _)
     refine ⟨.slice none 0 0, ?_, by simp only [VRel], rfl⟩
     rw [sliceAt_slice C.w hu]
     simp [Instr.slice, run_underlying hu, hbr, run_sizeOf_of C.w hne]
  ·cases hv
 ·cases hv
end Go.Ab
namespace Go.Ab
variable {P : Program} {C : Ctx} {n : Nat}
theorem ListRel.append : ∀ {as bs : List AV} {p : Option (List Nat)} {i : Nat} {ca cb : List Value}, ListRel C as p i ca → ListRel C bs p (i + as.length) cb → ListRel C (as ++ bs) p i (ca ++ cb)
 | [], bs, p, i, ca, cb, ha, hb => by simp only [ListRel] at ha; subst ha; simpa using hb
 | a :: as, bs, p, i, ca, cb, ha, hb => by
  simp only [ListRel] at ha
  obtain ⟨c, cs', rfl, h1, h2, hr⟩ := ha
  simp only [List.cons_append, ListRel]
  exact ⟨c, cs' ++ cb, rfl, h1, h2, hr.append (by simpa [Nat.add_assoc, Nat.add_comm 1] using hb)⟩
theorem ListRel.plain {vs : List AV} {i j : Nat} {cs : List Value} (h : ListRel C vs none i cs) : ListRel C vs none j cs := ListRel.any _ _ _ _ _ h
theorem ListRel.replicate {vs : List AV} {cs : List Value} (h : ListRel C vs none 0 cs) : ∀ n, ListRel C (List.replicate n vs).flatten none 0 (List.replicate n cs).flatten
 | 0 => by simp [ListRel]
 | n + 1 => by
  simp only [List.replicate_succ, List.flatten_cons]
  exact h.append (ListRel.plain (ListRel.replicate h n))
def splice {α : Type} (off : Nat) (l news : List α) : List α := l.take off ++ news ++ l.drop (off + news.length)
theorem length_splice {α : Type} {off : Nat} {l news : List α} (h : off + news.length ≤ l.length) : (splice off l news).length = l.length := by
 simp [splice]; omega
theorem foldl_splice (off : Nat) : ∀ (l : List Value) (k : Nat) (arr : Array Value), off + k + l.length ≤ arr.size →
  ((l.zipIdx k).foldl (fun cs x => cs.setIfInBounds (off + x.2) x.1) arr).toList = splice (off + k) arr.toList l
 | [], k, arr, _ => by simp [splice]
 | c :: l, k, arr, h => by
  simp only [List.zipIdx_cons, List.foldl_cons]
  rw [foldl_splice off l (k + 1) _ (by simp at h ⊢; omega)]
  simp only [splice, Array.toList_setIfInBounds, List.length_cons]
  have hlt : off + k < arr.toList.length := by simp at h ⊢; omega
  have e1 : (arr.toList.set (off + k) c).take (off + (k + 1)) = arr.toList.take (off + k) ++ [c] := by
   rw [show off + (k + 1) = (off + k) + 1 by omega, List.take_add_one, List.take_set_of_le (Nat.le_refl _), List.getElem?_set_self hlt]
   rfl
  have e2 : (arr.toList.set (off + k) c).drop (off + (k + 1) + l.length) = arr.toList.drop (off + k + (l.length + 1)) := by
   rw [List.drop_set_of_lt (by omega)]
   congr 1; omega
  rw [e1, e2]
  simp
theorem fill_step (off : Nat) (v : Value) (arr : Array Value) (h : off + v.cells.size ≤ arr.size) :
  (v.cells.zipIdx.foldl (fun cs (x : Value × Nat) => cs.setIfInBounds (off + x.2) x.1) arr) = (splice off arr.toList v.cells.toList).toArray := by
 apply Array.ext'
 rw [← Array.foldl_toList, Array.toList_zipIdx]
 have := foldl_splice off v.cells.toList 0 arr (by simpa using h)
 simpa using this
theorem ListRel.splice {vs news : List AV} {cs cn : List Value} {off : Nat} (h : ListRel C vs none 0 cs) (hn : ListRel C news none 0 cn) :
  ListRel C (splice off vs news) none 0 (splice off cs cn) := by
 unfold Ab.splice
 rw [hn.length]
 exact ((h.take off).append (ListRel.plain hn)).append (ListRel.plain (h.drop _))
theorem mem_splice {α : Type} {off : Nat} {l news : List α} {x : α} (h : x ∈ splice off l news) : x ∈ l ∨ x ∈ news := by
 unfold splice at h
 rcases List.mem_append.1 h with h | h
 ·rcases List.mem_append.1 h with h | h
  ·exact .inl (List.mem_of_mem_take h)
  ·exact .inr h
 ·exact .inl (List.mem_of_mem_drop h)
def PartsRel (C : Ctx) : List (Nat × AV) → List (Nat × Value) → Prop
 | [], [] => True
 | (i, v) :: r, (j, c) :: s => i = j ∧ VRel C v none c ∧ PartsRel C r s
 | _, _ => False
theorem fillA_eq {places : Nat → Option (Nat × Nat)} {cells : List AV} {i : Nat} {v : AV} {rest : List (Nat × AV)} {out : List AV} (h : fillA places cells ((i, v) :: rest) = some out) :
  ∃ off size, places i = some (off, size) ∧ okTop v = true ∧ v.cells.length = size ∧ off + size ≤ cells.length ∧ fillA places (splice off cells v.cells) rest = some out := by
 unfold fillA at h
 split at h
 ·cases h
 ·rename_i off size hp
  split at h
  ·rename_i hc
   obtain ⟨h1, h2, h3⟩ := hc
   exact ⟨off, size, hp, h1, h2, h3, by unfold splice; rw [h2]; exact h⟩
  ·cases h
theorem fill_run {places : Nat → Option (Nat × Nat)} : ∀ {ps : List (Nat × AV)} {cps : List (Nat × Value)} {cells out : List AV} {cs : List Value}, PartsRel C ps cps →
  ListRel C cells none 0 cs → (∀ x ∈ cs, flat x) → fillA places cells ps = some out →
  ∃ co : List Value, Instr.fill places cs.toArray cps = some co.toArray ∧ ListRel C out none 0 co ∧ ∀ x ∈ co, flat x
 | [], [], cells, out, cs, _, hc, hf, h => by unfold fillA at h; cases h; exact ⟨cs, rfl, hc, hf⟩
 | (i, v) :: ps, (j, c) :: cps, cells, out, cs, hp, hc, hf, h => by
  obtain ⟨rfl, hv, hp⟩ := hp
  obtain ⟨off, size, h1, h2, h3, h4, h5⟩ := fillA_eq h
  obtain ⟨hvc, hvf⟩ := cells_plain hv h2
  have hlen : c.cells.size = v.cells.length := by have := hvc.length; simpa using this
  have hcl := hc.length
  obtain ⟨co, e1, e2, e3⟩ := fill_run (places := places) (cs := splice off cs c.cells.toList) hp (hc.splice hvc) (fun x hx => (mem_splice hx).elim (hf x) (hvf x)) h5
  refine ⟨co, ?_, e2, e3⟩
  unfold Instr.fill
  rw [h1]
  simp only
  rw [if_neg (by simp; omega), fill_step off c cs.toArray (by simp; omega)]
  exact e1
 | [], _ :: _, _, _, _, h, _, _, _ => h.elim
 | _ :: _, [], _, _, _, h, _, _, _ => h.elim
theorem zeroA_some {t : TypeId} {z : AV} (h : zeroA P t = some z) : ∃ i z0, P.info? t = some i ∧ i.zero = some z0 ∧ z = AV.ofConst z0 ∧ okTop z = true := by
 unfold zeroA at h
 split at h
 ·rename_i i hi
  split at h
  ·rename_i z0 hz0
   split at h
   ·rename_i ho; cases h; exact ⟨i, z0, hi, hz0, rfl, ho⟩
   ·cases h
  ·cases h
 ·cases h
theorem places_of (hF : Fine P) {t : TypeId} (hlt : t < P.types.size) {fs : Array Field} (hu : P.underlying t = some (.struct fs)) :
  ∃ places, fs.toList.mapM (fun f => (P.info? f.type).map fun i => (f.offset, i.size)) = some places ∧ ∀ i, places.toArray[i]? = structPlaces P t i := by
 have key : ∀ l : List Field, (∀ f ∈ l, (P.info? f.type).isSome = true) → ∃ places, l.mapM (fun f => (P.info? f.type).map fun i => (f.offset, i.size)) = some places ∧
   ∀ i : Nat, places[i]? = (l[i]?).map fun f => (f.offset, P.cellsOf f.type) := by
  intro l
  induction l with
  | nil => intro _; exact ⟨[], by simp, by simp⟩
  | cons f l ih =>
   intro hl
   obtain ⟨pl, h1, h2⟩ := ih (fun g hg => hl g (List.mem_cons_of_mem _ hg))
   obtain ⟨i, hi⟩ := Option.isSome_iff_exists.1 (hl f (by simp))
   refine ⟨(f.offset, i.size) :: pl, by simp [List.mapM_cons, hi, h1], fun k => ?_⟩
   cases k with
   | zero => simp [Program.cellsOf, hi]
   | succ k => simpa using h2 k
 obtain ⟨pl, h1, h2⟩ := key fs.toList (hF.fields t fs hlt hu)
 refine ⟨pl, h1, fun i => ?_⟩
 have := h2 i
 simp only [structPlaces, fieldOf, hu]
 simpa using this
theorem built_of (hF : Fine P) {t : TypeId} {parts : List (Nat × AV)} {v : AV} (h : buildA P t parts = some v) :
  ∃ (z0 : Value) (places : Nat → Option (Nat × Nat)) (out : List AV), okTop (AV.ofConst z0) = true ∧ fillA places (AV.ofConst z0).cells parts = some out ∧ v = .agg out ∧
   ∀ cps : List (Nat × Value), P.built t cps = Instr.fill places z0.cells cps := by
 unfold buildA at h
 by_cases hlt : t < P.types.size
 rotate_left
 ·rw [if_neg hlt] at h; cases h
 rw [if_pos hlt] at h
 split at h
 ·rename_i z fs hz hu
  obtain ⟨i, z0, hi, hz0, rfl, hok⟩ := zeroA_some hz
  cases hfl : fillA (structPlaces P t) (AV.ofConst z0).cells parts with
  | none => rw [hfl] at h; cases h
  | some out =>
   rw [hfl] at h; cases h
   obtain ⟨pl, h1, h2⟩ := places_of hF hlt hu
   refine ⟨z0, structPlaces P t, out, hok, hfl, rfl, fun cps => ?_⟩
   have e : (fun x => pl.toArray[x]?) = structPlaces P t := funext h2
   simp only [Program.built, hi, hu, hz0, h1]
   exact congrArg (fun f => Instr.fill f z0.cells cps) e
 ·rename_i z n e hz hu
  obtain ⟨i, z0, hi, hz0, rfl, hok⟩ := zeroA_some hz
  cases hfl : fillA (fun i => some (i * P.cellsOf e, P.cellsOf e)) (AV.ofConst z0).cells parts with
  | none => rw [hfl] at h; cases h
  | some out =>
   rw [hfl] at h; cases h
   obtain ⟨ie, hie⟩ := Option.isSome_iff_exists.1 (hF.elems t n e hlt hu)
   refine ⟨z0, _, out, hok, hfl, rfl, fun cps => ?_⟩
   simp [Program.built, hi, hu, hz0, hie, Program.cellsOf]
 ·cases h
theorem build_run (hF : Fine P) {t : TypeId} {ps : List (Nat × AV)} {cps : Array (Nat × Value)} {v : AV} (hp : PartsRel C ps cps.toList) (h : buildA P t ps = some v) :
  ∃ c, (Instr.build t cps).run P C.w = .ok c C.w ∧ VRel C v none c := by
 obtain ⟨z0, places, out, hok, hfl, rfl, hb⟩ := built_of hF h
 obtain ⟨hz, hzf⟩ := cells_plain (ofConst_rel C none z0).1 hok
 obtain ⟨co, e1, e2, e3⟩ := fill_run hp hz hzf hfl
 refine ⟨.agg co.toArray, run_build C.w t cps co.toArray (by rw [hb]; exact e1), ?_⟩
 simp only [VRel]
 exact ⟨co, rfl, e3, e2⟩
def mvCell (d t dst off : Nat) (agg : Bool) : List Nat → List Nat
 | k :: t' :: r => if k = d + 2 ∧ t' = t then
   (if agg then (match r with | j :: r' => (d + 2) :: dst :: (off + j) :: r' | [] => (d + 2) :: dst :: []) else (d + 2) :: dst :: off :: r)
  else k :: t' :: r
 | l => l
theorem mvCell_heap (d t dst off : Nat) (agg : Bool) (r : List Nat) : mvCell d t dst off agg (1 :: r) = 1 :: r := by
 cases r with
 | nil => rfl
 | cons a r => simp only [mvCell]; rw [if_neg (by omega)]
theorem mvCell_deep (d t dst off : Nat) (agg : Bool) (l : List Nat) (h : ¬ Deep d l) : mvCell d t dst off agg l = l := by
 match l with
 | [] => rfl
 | [_] => rfl
 | k :: t' :: r =>
  simp only [mvCell]
  rw [if_neg]
  rintro ⟨rfl, _⟩
  exact h ⟨d + 2, t' :: r, rfl, .inr (Nat.le_refl _)⟩
theorem mvCell_other (d t dst off : Nat) (agg : Bool) (t' : Nat) (h : t' ≠ t) (r : List Nat) : mvCell d t dst off agg ((d + 2) :: t' :: r) = (d + 2) :: t' :: r := by
 simp only [mvCell]; rw [if_neg (by simp [h])]
theorem ListRel.shift {g : List Nat → List Nat} (hf : g froz = froz) {q q' : List Nat} {off : Nat} (hg : ∀ j r, g (q ++ j :: r) = q' ++ (off + j) :: r) :
  ∀ {vs : List AV} {i : Nat} {cs : List Value}, ListRel C vs (some q) i cs → ListRel (C.map g) vs (some q') (off + i) cs
 | [], _, _, h => by simpa only [ListRel] using h
 | v :: vs, i, _, h => by
  simp only [ListRel] at h ⊢
  obtain ⟨c, cs', rfl, hl, hv, hr⟩ := h
  refine ⟨c, cs', rfl, hl, ?_, by have := hr.shift hf hg; rwa [← Nat.add_assoc] at this⟩
  exact VRel.map hf v _ _ c (.inr ⟨q ++ [i], q' ++ [off + i], rfl, rfl, fun r => by simpa using hg i r⟩) (isPl_lp hl) (fun hb => absurd hb (by simp [isPl_bx hl])) hv
theorem build_own (hF : Fine P) {d t dst : Nat} {cons : List Tmp} (ht : t ∈ cons) {ty : TypeId} {i : Nat} {x v : AV} {cx : Value} (hx : VRel C x (some [d + 2, t]) cx) (hpl : isPl x = false) (h : buildA P ty [(i, x)] = some v) :
  ∃ c, (Instr.build ty #[(i, cx)]).run P C.w = .ok c C.w ∧ Got C d cons dst v c := by
 obtain ⟨z0, places, out, hok, hfl, rfl, hb⟩ := built_of hF h
 obtain ⟨hz, hzf⟩ := cells_plain (ofConst_rel C none z0).1 hok
 obtain ⟨off, size, h1, h2, h3, h4, h5⟩ := fillA_eq hfl
 unfold fillA at h5
 cases h5
 -- the part's cells, where they come to lie
 have key : ∃ (g : List Nat → List Nat) (cn : List Value), cx.cells.toList = cn ∧ cn.length = x.cells.length ∧ (∀ y ∈ cn, flat y) ∧ g froz = froz ∧ g [] = [] ∧ (∀ r, g (1 :: r) = 1 :: r) ∧ (∀ l, ¬ Deep d l → g l = l) ∧
   (∀ t', t' ∉ cons → ∀ r, g ((d + 2) :: t' :: r) = (d + 2) :: t' :: r) ∧ ListRel (C.map g) x.cells (some [d + 2, dst]) off cn := by
  by_cases ha : ∃ cs, x = .agg cs
  ·obtain ⟨cs, rfl⟩ := ha
   simp only [VRel] at hx
   obtain ⟨cs', rfl, hfx, hr⟩ := hx
   refine ⟨mvCell d t dst off true, cs', by simp [Value.cells], by simpa [AV.cells] using hr.length, hfx, rfl, rfl, mvCell_heap d t dst off true, mvCell_deep d t dst off true,
    fun t' ht' r => mvCell_other d t dst off true t' (fun e => ht' (e ▸ ht)) r, ?_⟩
   have := hr.shift (g := mvCell d t dst off true) (q' := [d + 2, dst]) (off := off) rfl (fun j r => by simp [mvCell])
   simpa [AV.cells] using this
  ·have ha' : ∀ cs, x ≠ .agg cs := fun cs e => ha ⟨cs, e⟩
   have hfx := flat_of hx h2 ha'
   have hxc : x.cells = [x] := by cases x <;> first | rfl | exact absurd rfl (ha' _)
   refine ⟨mvCell d t dst off false, [cx], by simp [flat_cells hfx], by simp [hxc], by simpa using hfx, rfl, rfl, mvCell_heap d t dst off false, mvCell_deep d t dst off false,
    fun t' ht' r => mvCell_other d t dst off false t' (fun e => ht' (e ▸ ht)) r, ?_⟩
   rw [hxc]
   simp only [ListRel]
   refine ⟨cx, [], rfl, hpl, ?_, rfl⟩
   exact VRel.map rfl x _ _ cx (.inr ⟨_, _, rfl, rfl, fun r => by simp [mvCell]⟩) (isPl_lp hpl) (fun hb => absurd hb (by simp [isPl_bx hpl])) hx
 obtain ⟨g, cn, hcn, hl, hfn, g1, g0, g2, g3, g4, hr⟩ := key
 have hzl := hz.length
 have hsz : cx.cells.size = x.cells.length := by rw [← hl, ← hcn]; simp
 refine ⟨.agg (splice off z0.cells.toList cn).toArray, ?_, g, g1, g0, g2, g3, g4, ?_⟩
 ·refine run_build C.w ty _ _ ?_
  rw [hb]
  show Instr.fill places z0.cells [(i, cx)] = _
  unfold Instr.fill
  rw [h1]
  simp only
  rw [if_neg (by simp at hzl ⊢; omega), fill_step off cx z0.cells (by simp at hzl; omega), hcn]
  rfl
 ·simp only [VRel]
  refine ⟨_, rfl, fun y hy => (mem_splice hy).elim (hzf y) (hfn y), ?_⟩
  unfold splice
  have hz' : ListRel (C.map g) (AV.ofConst z0).cells none 0 z0.cells.toList := ListRel.map g1 _ none none 0 _ (.inl ⟨rfl, rfl⟩) hz
  have e1 : ((AV.ofConst z0).cells.take off).length = off := by simp; omega
  refine ((ListRel.any _ _ _ 0 _ (hz'.take off)).append ?_).append ?_
  ·rw [e1]; simpa using hr
  ·rw [hl]; exact ListRel.any _ _ _ _ _ (hz'.drop _)
end Go.Ab
namespace Go.Ab
variable {P : Program} {C : Ctx} {n : Nat}
def Ctx.push (C : Ctx) (o : Go.Obj) (lab : Nat → List Nat) : Ctx :=
 { C with w := C.w.alloc o, L := fun b x => if b = C.w.heap.size then lab x else C.L b x }
theorem alloc_old (w : World) (o : Go.Obj) {b : Nat} (h : b < w.heap.size) : (w.alloc o).heap[b]? = w.heap[b]? := by
 simp only [World.alloc]
 rw [Array.getElem?_push]
 rw [if_neg (by omega)]
theorem alloc_new (w : World) (o : Go.Obj) : (w.alloc o).heap[w.heap.size]? = some o := by
 simp only [World.alloc]
 rw [Array.getElem?_push, if_pos rfl]
theorem same_of_block {w w' : World} {b : Nat} (h : w'.heap[b]? = w.heap[b]?) (o : Nat) : Same w w' b o :=
 ⟨by simp only [World.cell?, h], fun x hx _ => h.trans hx⟩
theorem Ext.push (X : List Nat → Prop) (o : Go.Obj) (lab : Nat → List Nat) (hfr : ∀ b x, C.w.heap.size ≤ b → C.L b x = []) : Ext X C (C.push o lab) where
 n := Nat.le_refl _
 ids := fun _ _ => ⟨rfl, rfl, rfl, rfl⟩
 fr := fun b x h => by
  have hb : b < C.w.heap.size := by
   rcases Nat.lt_or_ge b C.w.heap.size with h' | h'
   ·exact h'
   ·rw [hfr b x h'] at h; simp [froz] at h
  exact ⟨by show (if b = _ then _ else _) = _; rw [if_neg (by omega)]; exact h, same_of_block (alloc_old _ _ hb) x⟩
 keep := fun b x h _ => by
  have hb : b < C.w.heap.size := by
   rcases Nat.lt_or_ge b C.w.heap.size with h' | h'
   ·exact h'
   ·exact absurd (hfr b x h') h
  exact ⟨by show (if b = _ then _ else _) = _; rw [if_neg (by omega)], same_of_block (alloc_old _ _ hb) x⟩
 β := fun _ _ _ => rfl
 shape := fun b cs e fr h => by
  have hb : b < C.w.heap.size := (Array.getElem?_eq_some_iff.1 h).1
  exact ⟨cs, fr, (alloc_old _ _ hb).trans h, rfl, id⟩
 old := ⟨rfl, by show _ ≤ (C.w.alloc o).heap.size; rw [World.size_alloc]; exact Nat.le_succ _, rfl, rfl, rfl, fun b cs e fr _ h => by
  have hb : b < C.w.heap.size := (Array.getElem?_eq_some_iff.1 h).1
  exact ⟨cs, (alloc_old _ _ hb).trans h⟩⟩
theorem push_fresh {o : Go.Obj} {lab : Nat → List Nat} (hfr : ∀ b x, C.w.heap.size ≤ b → C.L b x = []) : ∀ b x, (C.push o lab).w.heap.size ≤ b → (C.push o lab).L b x = [] := by
 intro b x hb
 have : (C.push o lab).w.heap.size = C.w.heap.size + 1 := World.size_alloc _ _
 show (if b = _ then _ else _) = _
 rw [if_neg (by omega)]
 exact hfr b x (by omega)
theorem HeapRel.push {S : Sto} (h : HeapRel C S) (o : Go.Obj) (lab : Nat → List Nat) : HeapRel (C.push o lab) S :=
 h.mono (Ext.push (fun _ => False) o lab h.fresh) rfl (fun _ h => h) (push_fresh h.fresh)
theorem EnvRel.push {d : Nat} {env : List AV} {tmps : Array Value} {S : Sto} (h : HeapRel C S) (hE : EnvRel C d env tmps) (o : Go.Obj) (lab : Nat → List Nat) : EnvRel (C.push o lab) d env tmps :=
 hE.mono (Ext.push (fun _ => False) o lab h.fresh) (fun _ _ h => h)
def Ctx.drew (C : Ctx) : Ctx := { C with w := C.w.drew }
theorem Ext.drew (X : List Nat → Prop) (C : Ctx) : Ext X C C.drew :=
 ⟨Nat.le_refl _, fun _ _ => ⟨rfl, rfl, rfl, rfl⟩, fun _ _ h => ⟨h, same_of_block rfl _⟩, fun _ _ _ _ => ⟨rfl, same_of_block rfl _⟩, fun _ _ _ => rfl, fun _ cs _ fr h => ⟨cs, fr, h, rfl, id⟩, ⟨rfl, Nat.le_refl _, rfl, rfl, rfl, fun _ cs _ _ _ h => ⟨cs, h⟩⟩⟩
theorem HeapRel.drew {S : Sto} (h : HeapRel C S) : HeapRel C.drew S := h.mono (Ext.drew (fun _ => False) C) rfl (fun _ h => h) h.fresh
theorem EnvRel.drew {d : Nat} {env : List AV} {tmps : Array Value} (hE : EnvRel C d env tmps) : EnvRel C.drew d env tmps := hE.mono (Ext.drew (fun _ => False) C) (fun _ _ h => h)
theorem cells_of : ∀ {vs : List AV} {cs : List Value} {i b o : Nat}, ListRel C vs none i cs → (∀ x ∈ cs, flat x) → (∀ (j : Nat) c, cs[j]? = some c → C.w.cell? ⟨b, o + j, none⟩ = some c ∧ C.L b (o + j) = froz) → CellsRel C vs b o
 | [], _, _, _, _, _, _, _ => by simp [CellsRel]
 | v :: vs, cs, i, b, o, h, hf, hc => by
  simp only [ListRel, sub, Option.map_none] at h
  obtain ⟨c, cs', rfl, _, hv, hr⟩ := h
  simp only [CellsRel]
  refine ⟨⟨c, by simpa using (hc 0 c (by simp)).1, by simpa using (hc 0 c (by simp)).2, hf c (by simp), hv⟩, ?_⟩
  refine cells_of hr (fun x hx => hf x (by simp [hx])) (fun j c' hj => ?_)
  have := hc (j + 1) c' (by simpa using hj)
  rwa [show o + 1 + j = o + (j + 1) by omega]
theorem rows_of : ∀ {rows : List (List AV)} {b o es : Nat}, (∀ r ∈ rows, r.length = es) → CellsRel C rows.flatten b o → RowsRel C rows b o es
 | [], _, _, _, _, _ => by simp [RowsRel]
 | r :: rs, b, o, es, hl, h => by
  simp only [List.flatten_cons] at h
  have key : ∀ (r : List AV) (o : Nat), CellsRel C (r ++ rs.flatten) b o → CellsRel C r b o ∧ CellsRel C rs.flatten b (o + r.length) := by
   intro r
   induction r with
   | nil => intro o h; exact ⟨by simp [CellsRel], by simpa using h⟩
   | cons v r ih =>
    intro o h
    simp only [List.cons_append, CellsRel] at h
    obtain ⟨h1, h2⟩ := ih (o + 1) h.2
    simp only [CellsRel]
    exact ⟨⟨h.1, h1⟩, by rw [show o + (v :: r).length = o + 1 + r.length by simp; omega]; exact h2⟩
  obtain ⟨h1, h2⟩ := key r o h
  simp only [RowsRel]
  have hr := hl r (by simp)
  exact ⟨hr, h1, rows_of (fun x hx => hl x (by simp [hx])) (by rw [← hr]; exact h2)⟩
theorem flatten_length {rows : List (List AV)} {es : Nat} (h : ∀ r ∈ rows, r.length = es) : rows.flatten.length = rows.length * es := by
 induction rows with
 | nil => simp
 | cons r rs ih =>
  simp only [List.flatten_cons, List.length_append, List.length_cons]
  rw [h r (by simp), ih (fun x hx => h x (by simp [hx])), Nat.add_mul]
  omega
theorem cell_push {cs : Array Value} {e : TypeId} {lab : Nat → List Nat} (fr : Nat × Nat) (o : Nat) : (C.push (.cells cs e fr) lab).w.cell? ⟨C.w.heap.size, o, none⟩ = cs[o]? := by
 have h : (C.push (.cells cs e fr) lab).w.heap[C.w.heap.size]? = some (.cells cs e fr) := alloc_new _ _
 simp [World.cell?, h]
theorem newSlice {S : Sto} (hS : HeapRel C S) {rows : List (List AV)} {cs : List Value} {es cap : Nat} {q : List Nat} (e : TypeId) (fr : Nat × Nat) (hes : 1 ≤ es) (hrow : ∀ r ∈ rows, r.length = es)
  (hr : ListRel C rows.flatten none 0 cs) (hf : ∀ x ∈ cs, flat x) {rest : Array Value} (hcap : rows.length ≤ cap) (hsz : cs.length + rest.size = cap * es) (hfr : FrOK fr (cap * es)) :
  let C' := C.push (.cells (cs.toArray ++ rest) e fr) (fun o => if o < cs.length then froz else q)
  VRel C' (.sl true es rows) (some q) (.slice (some ⟨C.w.heap.size, 0, none⟩) rows.length cap) := by
 intro C'
 have hx : Ext (fun _ => False) C C' := Ext.push _ _ _ hS.fresh
 have hr' : ListRel C' rows.flatten none 0 cs := ListRel.mono hx _ none 0 _ (Off.none _) hr
 have hlen : cs.length = rows.length * es := by rw [hr.length, flatten_length hrow]
 have hnew : C'.w.heap[C.w.heap.size]? = some (.cells (cs.toArray ++ rest) e fr) := alloc_new _ _
 simp only [VRel]
 refine ⟨C.w.heap.size, 0, cap, none, rfl, hcap, hes, rows_of hrow (cells_of hr' hf (fun j c hj => ?_)), fun _ => ⟨q, rfl, ⟨fun hlt => ?_, fun o h1 h2 => ?_⟩, fun _ => hS.base.1⟩, .inl rfl⟩
 ·have hjl := (List.getElem?_eq_some_iff.1 hj).1
  refine ⟨?_, ?_⟩
  ·have e1 : C'.w.cell? ⟨C.w.heap.size, 0 + j, none⟩ = (cs.toArray ++ rest)[0 + j]? := cell_push fr _
   rw [e1, Nat.zero_add, Array.getElem?_append_left (by simpa using hjl)]
   simpa using hj
  ·show (if C.w.heap.size = C.w.heap.size then (if 0 + j < cs.length then froz else q) else _) = _
   rw [if_pos rfl, if_pos (by omega)]
 ·refine ⟨_, e, fr, hnew, by simp; omega, ?_⟩
  have : (cs.toArray ++ rest).size = cap * es := by simp; omega
  rw [this]; exact hfr
 ·show (if C.w.heap.size = C.w.heap.size then (if o < cs.length then froz else q) else _) = _
  rw [if_pos rfl, if_neg (by omega)]
theorem stripAt_get : ∀ (ts : List Tmp) (env : List AV) (t : Nat) (v : AV), (stripAt env ts)[t]? = some v → (t ∈ ts ∨ (∃ u, env[t]? = some u ∧ u.strip = u)) → v.strip = v
 | [], env, t, v, h, ht => by
  rcases ht with ht | ⟨u, hu, he⟩
  ·cases ht
  ·simp only [stripAt] at h; rw [hu] at h; cases h; exact he
 | s :: ts, env, t, v, h, ht => by
  simp only [stripAt] at h
  refine stripAt_get ts _ t v h ?_
  by_cases e : t = s
  ·subst e
   by_cases hm : t ∈ ts
   ·exact .inl hm
   ·right
    by_cases hlt : t < env.length
    ·exact ⟨_, List.getElem?_set_self hlt, strip_idem _⟩
    ·exfalso
     have key : ∀ (ts : List Tmp) (env : List AV), (stripAt env ts).length = env.length := by
      intro ts
      induction ts with
      | nil => intro env; rfl
      | cons a ts ih => intro env; simp only [stripAt]; rw [ih]; simp
     have := (List.getElem?_eq_some_iff.1 h).1
     rw [key] at this
     simp at this
     omega
  ·rcases ht with ht | ⟨u, hu, he⟩
   ·rcases List.mem_cons.1 ht with rfl | hm
    ·exact absurd rfl e
    ·exact .inl hm
   ·right
    exact ⟨u, by rw [List.getElem?_set_ne (fun x => e x.symm)]; exact hu, he⟩
theorem got_ok {C1 : Ctx} {d : Nat} {env : List AV} {tmps : Array Value} {S : Sto} {cons : List Tmp} {dst : Tmp} {v : AV} {c : Value} (hE : EnvRel C1 d env tmps) (hS : HeapRel C1 S) (hx : Ext (Deep d) C C1)
  (hg : Got C1 d cons dst v c) : ∃ C' : Ctx, C'.w = C1.w ∧ EnvRel C' d ((stripAt env cons).set dst v) (tmps.setIfInBounds dst c) ∧ HeapRel C' S ∧ Ext (Deep d) C C' := by
 obtain ⟨g, g1, g0, g2, g3, g4, hv⟩ := hg
 refine ⟨C1.map g, rfl, ?_, hS.map g1 g0 g2, hx.trans (Ext.map C1 g1 g3)⟩
 refine EnvRel.set ?_ dst hv
 refine EnvRel.map g1 (hE.stripAt cons) (fun t u hu => ?_)
 by_cases ht : t ∈ cons
 ·exact .inr (stripAt_get cons env t u hu (.inl ht))
 ·exact .inl (fun r => g4 t ht r)
end Go.Ab
namespace Go.Ab
variable {P : Program} {C : Ctx} {n : Nat}
theorem made_list (z : Array Value) : ∀ k, ((Array.range (k * z.size)).map (fun i => z[i % z.size]!)).toList = (List.replicate k z.toList).flatten := by
 intro k
 rw [Array.toList_map, Array.toList_range]
 rcases Nat.eq_zero_or_pos z.size with h0 | hpos
 ·have hz : z.toList = [] := by rw [← List.length_eq_zero_iff]; simpa using h0
  rw [h0, Nat.mul_zero, hz]; simp
 ·induction k with
  | zero => simp
  | succ k ih =>
   rw [Nat.add_mul, Nat.one_mul, List.range_add, List.map_append, ih, List.replicate_succ', List.flatten_append, List.map_map]
   congr 1
   simp only [List.flatten_cons, List.flatten_nil, List.append_nil]
   apply List.ext_getElem?
   intro i
   by_cases hi : i < z.size
   ·have hm : (k * z.size + i) % z.size = i := by rw [Nat.mul_comm, Nat.mul_add_mod]; exact Nat.mod_eq_of_lt hi
    simp [hi, hm]
   ·simp [hi]
theorem set_splice {es : Nat} : ∀ {rows : List (List AV)} {i : Nat} {r : List AV}, (∀ x ∈ rows, x.length = es) → i < rows.length → r.length = es → splice (i * es) rows.flatten r = (rows.set i r).flatten
 | [], _, _, _, h, _ => by simp at h
 | x :: rows, i, r, hl, h, hr => by
  have hx := hl x (by simp)
  cases i with
  | zero =>
   simp only [splice, Nat.zero_mul, List.take_zero, List.nil_append, List.flatten_cons, List.set_cons_zero, Nat.zero_add, hr]
   rw [List.drop_append_of_le_length (by omega), List.drop_of_length_le (by omega)]
   simp
  | succ i =>
   have ih := set_splice (rows := rows) (i := i) (r := r) (fun y hy => hl y (by simp [hy])) (by simpa using h) hr
   simp only [List.set_cons_succ, List.flatten_cons]
   rw [← ih]
   simp only [splice]
   have e1 : (i + 1) * es = x.length + i * es := by rw [Nat.add_mul, hx]; omega
   rw [e1, List.take_length_add_append, show x.length + i * es + r.length = x.length + (i * es + r.length) by omega, List.drop_length_add_append]
   simp
theorem fillRows_eq {es : Nat} : ∀ {ps : List (Nat × AV)} {rows out : List (List AV)}, (∀ x ∈ rows, x.length = es) → fillRows es rows ps = some out →
  (∀ x ∈ out, x.length = es) ∧ out.length = rows.length ∧ fillA (fun i => some (i * es, es)) rows.flatten ps = some out.flatten
 | [], rows, out, hl, h => by unfold fillRows at h; cases h; exact ⟨hl, rfl, rfl⟩
 | (i, v) :: ps, rows, out, hl, h => by
  unfold fillRows at h
  split at h
  ·rename_i hc
   obtain ⟨h1, h2, h3⟩ := hc
   have hl' : ∀ x ∈ rows.set i v.cells, x.length = es := by
    intro x hx
    rcases List.mem_or_eq_of_mem_set hx with hx | rfl
    ·exact hl x hx
    ·exact h2
   obtain ⟨a, b, c⟩ := fillRows_eq hl' h
   refine ⟨a, by rw [b]; simp, ?_⟩
   unfold fillA
   simp only
   have hfl : rows.flatten.length = rows.length * es := flatten_length hl
   have hle : i * es + es ≤ rows.flatten.length := by
    rw [hfl]
    have : (i + 1) * es ≤ rows.length * es := Nat.mul_le_mul_right _ h3
    rw [Nat.add_mul] at this; omega
   rw [if_pos ⟨h1, h2, hle⟩]
   have hs := set_splice hl h3 h2
   unfold splice at hs
   rw [h2] at hs
   rw [hs]
   exact c
  ·cases h
theorem zero_plain {e : TypeId} {z : AV} (hz : zeroA P e = some z) : ∃ i z0, P.info? e = some i ∧ i.zero = some z0 ∧ P.cellsOf e = i.size ∧ P.bytesOf e = i.bytes ∧
  ListRel C z.cells none 0 z0.cells.toList ∧ ∀ x ∈ z0.cells.toList, flat x := by
 obtain ⟨i, z0, hi, hz0, rfl, hok⟩ := zeroA_some hz
 obtain ⟨h1, h2⟩ := cells_plain (ofConst_rel C none z0).1 hok
 exact ⟨i, z0, hi, hz0, by simp [Program.cellsOf, hi], by simp [Program.bytesOf, hi], h1, h2⟩
structure Made (P : Program) (C : Ctx) (S : Sto) (d : Nat) (dst : Tmp) (v : AV) (x : Sem Value) : Prop where
 out : ∃ (c : Value) (C1 : Ctx), x.run P C.w = .ok c C1.w ∧ Ext (fun _ => False) C C1 ∧ HeapRel C1 S ∧ VRel C1 v (some [d + 2, dst]) c
structure SameBut (w1 w : World) : Prop where
 heap : w1.heap = w.heap
 os : w1.os = w.os
 tape : w1.tape = w.tape
 output : w1.output = w.output
theorem SameBut.refl (w : World) : SameBut w w := ⟨rfl, rfl, rfl, rfl⟩
structure RawNew (P : Program) (C : Ctx) (es : Nat) (rows : List (List AV)) (x : Sem Value) : Prop where
 out : ∃ (w1 : World) (cs : List Value) (rest : Array Value) (e : TypeId) (fr : Nat × Nat) (cap : Nat), SameBut w1 C.w ∧ x.run P C.w = .ok (.slice (some ⟨C.w.heap.size, 0, none⟩) rows.length cap) (w1.alloc (.cells (cs.toArray ++ rest) e fr)) ∧
  rows.length ≤ cap ∧ 1 ≤ es ∧ (∀ r ∈ rows, r.length = es) ∧ ListRel C rows.flatten none 0 cs ∧ (∀ x ∈ cs, flat x) ∧ cs.length + rest.size = cap * es ∧ FrOK fr (cap * es)
def Ctx.on (C : Ctx) (w1 : World) : Ctx := { C with w := w1 }
theorem Ext.on (X : List Nat → Prop) {w1 : World} (hw : SameBut w1 C.w) : Ext X C (C.on w1) :=
 have h := hw.heap
 ⟨Nat.le_refl _, fun _ _ => ⟨rfl, rfl, rfl, rfl⟩, fun b _ hl => ⟨hl, same_of_block (by show w1.heap[b]? = _; rw [h]) _⟩, fun b _ _ _ => ⟨rfl, same_of_block (by show w1.heap[b]? = _; rw [h]) _⟩, fun _ _ _ => rfl,
  fun b cs _ fr hb => ⟨cs, fr, by show w1.heap[b]? = _; rw [h]; exact hb, rfl, id⟩,
  ⟨rfl, by show _ ≤ w1.heap.size; rw [h]; exact Nat.le_refl _, hw.os, hw.tape, hw.output, fun b cs e fr _ hb => ⟨cs, by show w1.heap[b]? = _; rw [h]; exact hb⟩⟩⟩
theorem HeapRel.on {S : Sto} {w1 : World} (hS : HeapRel C S) (h : SameBut w1 C.w) : HeapRel (C.on w1) S :=
 hS.mono (Ext.on (fun _ => False) h) rfl (fun _ h => h) (fun b o hb => hS.fresh b o (by rw [← h.heap]; exact hb))
theorem RawNew.made {S : Sto} (hS : HeapRel C S) {d dst es : Nat} {rows : List (List AV)} {x : Sem Value} (h : RawNew P C es rows x) : Made P C S d dst (.sl true es rows) x := by
 obtain ⟨w1, cs, rest, e, fr, cap, hw, hrun, hle, hes, hrow, hr, hf, hsz, hfr⟩ := h.out
 have hr' : ListRel (C.on w1) rows.flatten none 0 cs := ListRel.mono (Ext.on (fun _ => False) hw) _ none 0 _ (Off.none _) hr
 have hS1 := hS.on hw
 have hns := newSlice hS1 (q := [d + 2, dst]) (cap := cap) e fr hes hrow hr' hf (rest := rest) hle hsz hfr
 have hsz1 : (C.on w1).w.heap.size = C.w.heap.size := congrArg Array.size hw.heap
 refine ⟨_, (C.on w1).push (.cells (cs.toArray ++ rest) e fr) (fun o => if o < cs.length then froz else [d + 2, dst]), hrun, (Ext.on _ hw).trans (Ext.push _ _ _ hS1.fresh), hS1.push _ _, ?_⟩
 rw [← hsz1]
 exact hns
theorem buildSlice_raw {t : TypeId} {len : Nat} {ps : List (Nat × AV)} {cps : Array (Nat × Value)} {v : AV} (hp : PartsRel C ps cps.toList) (h : buildSliceA P t len ps = some v) :
  ∃ es rows, v = .sl true es rows ∧ RawNew P C es rows (Instr.buildSlice t len cps) := by
 unfold buildSliceA at h
 split at h
 ·rename_i e hu
  split at h
  ·rename_i z hz
   split at h
   ·rename_i hc
    obtain ⟨hpos, hzl, hsm⟩ := hc
    cases hfr : fillRows (P.cellsOf e) (List.replicate len z.cells) ps with
    | none => rw [hfr] at h; cases h
    | some rows =>
     rw [hfr] at h; cases h
     obtain ⟨i, z0, hi, hz0, hsz, _, hzr, hzf⟩ := zero_plain (C := C) hz
     have hrep : ∀ x ∈ List.replicate len z.cells, x.length = P.cellsOf e := fun x hx => by rw [List.eq_of_mem_replicate hx]; exact hzl
     obtain ⟨h1, h2, h3⟩ := fillRows_eq hrep hfr
     have hz0s : z0.cells.size = i.size := by have := hzr.length; simp at this; omega
     have hbase : ListRel C (List.replicate len z.cells).flatten none 0 (List.replicate len z0.cells.toList).flatten := hzr.replicate len
     have hbf : ∀ x ∈ (List.replicate len z0.cells.toList).flatten, flat x := by
      intro x hx
      obtain ⟨l, hl, hx⟩ := List.mem_flatten.1 hx
      rw [List.eq_of_mem_replicate hl] at hx
      exact hzf x hx
     obtain ⟨co, e1, e2, e3⟩ := fill_run hp hbase hbf h3
     have harr : ((Array.range (len * i.size)).map (fun k => z0.cells[k % z0.cells.size]!)) = (List.replicate len z0.cells.toList).flatten.toArray := by
      apply Array.ext'
      have := made_list z0.cells len
      rw [hz0s] at this
      rw [hz0s]
      simpa using this
     have hlen : rows.length = len := by rw [h2]; simp
     have hcl : co.length = len * P.cellsOf e := by rw [e2.length, flatten_length h1, hlen]
     have hrun : (Instr.buildSlice t len cps).run P C.w = .ok (.slice (some ⟨C.w.heap.size, 0, none⟩) len len) (C.w.alloc (.cells co.toArray e)) := by
      by_cases h0 : len = 0
      ·subst h0
       have hco : co = [] := by rw [← List.length_eq_zero_iff]; omega
       subst hco
       simp at e1
       have hr0 : Array.range 0 = #[] := rfl
       simp [Instr.buildSlice, run_underlying hu, sizeOf, typeInfo, hi, newRow, ← hsz, hr0, e1]
      ·refine run_buildSlice C.w t e len cps co.toArray i z0 hu hi hz0 (by rw [← hsz]; omega) ?_ ?_
       ·rw [← hsz]
        intro hm
        rcases Nat.mul_eq_zero.1 hm with h' | h' <;> omega
       ·rw [← hsz] at harr ⊢
        rw [harr]; exact e1
     refine ⟨_, _, rfl, ⟨C.w, co, #[], e, (0, 0), len, SameBut.refl _, ?_, by omega, hpos, h1, e2, e3, by simpa using hcl, .inl rfl⟩⟩
     rw [hrun, hlen]
     simp
   ·cases h
  ·cases h
 ·cases h
theorem buildSlice_run {S : Sto} (hS : HeapRel C S) {d dst : Nat} {t : TypeId} {len : Nat} {ps : List (Nat × AV)} {cps : Array (Nat × Value)} {v : AV} (hp : PartsRel C ps cps.toList) (h : buildSliceA P t len ps = some v) :
  Made P C S d dst v (Instr.buildSlice t len cps) := by
 obtain ⟨es, rows, rfl, hr⟩ := buildSlice_raw hp h
 exact hr.made hS
theorem makeSlice_raw {t : TypeId} {l c v : AV} {cl cc : Value} (hl : VRel C l none cl) (hc : VRel C c none cc) (h : makeSliceA P t l c = some v) :
  ∃ es rows, v = .sl true es rows ∧ RawNew P C es rows (Instr.makeSlice t cl cc) := by
 unfold makeSliceA at h
 split at h
 ·rename_i e kl l kc c hu
  simp only [VRel] at hl hc
  subst hl hc
  split at h
  ·rename_i z hz
   split at h
   ·rename_i hcnd
    obtain ⟨hpos, hzl, h0, hlc, hbig, hby⟩ := hcnd
    cases h
    obtain ⟨i, z0, hi, hz0, hsz, hbs, hzr, hzf⟩ := zero_plain (C := C) hz
    have hz0s : z0.cells.size = i.size := by have := hzr.length; simp at this; omega
    have hrun := run_make (P := P) C.w t e i z0 hu hi hz0 kl kc l c h0 hlc (by rw [← hbs]; omega) (by omega)
    have hmade : (madeCells z0.cells (c.toNat * i.size)).toList = (List.replicate c.toNat z0.cells.toList).flatten := by
     have := made_list z0.cells c.toNat
     rw [hz0s] at this
     unfold madeCells
     rw [hz0s]
     exact this
    obtain ⟨k, hk⟩ : ∃ k, c.toNat = l.toNat + k := ⟨c.toNat - l.toNat, by omega⟩
    have hsplit : madeCells z0.cells (c.toNat * i.size) = (List.replicate l.toNat z0.cells.toList).flatten.toArray ++ (List.replicate k z0.cells.toList).flatten.toArray := by
     apply Array.ext'
     rw [hmade, hk, ← List.replicate_append_replicate, List.flatten_append]
     simp
    have hbf : ∀ x ∈ (List.replicate l.toNat z0.cells.toList).flatten, flat x := by
     intro x hx
     obtain ⟨y, hy, hx⟩ := List.mem_flatten.1 hx
     rw [List.eq_of_mem_replicate hy] at hx
     exact hzf x hx
    have hrep : ∀ x ∈ List.replicate l.toNat z.cells, x.length = P.cellsOf e := fun x hx => by rw [List.eq_of_mem_replicate hx]; exact hzl
    have hflen : ∀ j, (List.replicate j z0.cells.toList).flatten.length = j * P.cellsOf e := by
     intro j
     simp [List.length_flatten, List.map_replicate, List.sum_replicate_nat, hz0s, hsz]
    refine ⟨_, _, rfl, ⟨C.w, (List.replicate l.toNat z0.cells.toList).flatten, (List.replicate k z0.cells.toList).flatten.toArray, e, (0, 0), c.toNat, SameBut.refl _, ?_, by simp; omega, hpos, hrep, hzr.replicate l.toNat, hbf,
     by simp only [List.size_toArray]; rw [hflen, hflen, hk, Nat.add_mul], .inl rfl⟩⟩
    rw [hrun, hsplit]
    simp
   ·cases h
  ·cases h
 ·cases h
theorem makeSlice_run {S : Sto} (hS : HeapRel C S) {d dst : Nat} {t : TypeId} {l c v : AV} {cl cc : Value} (hl : VRel C l none cl) (hc : VRel C c none cc) (h : makeSliceA P t l c = some v) :
  Made P C S d dst v (Instr.makeSlice t cl cc) := by
 obtain ⟨es, rows, rfl, hr⟩ := makeSlice_raw hl hc h
 exact hr.made hS
inductive Src (P : Program) (w : World) (e xType : TypeId) (x : Value) (n : Nat) (new : List Value) : Prop where
 | zeros (k kk : IntKind) (i : TypeInfo) (z0 : Value) (hu : P.underlying xType = some (.int k)) (hx : x = .int kk (n : Int)) (hn : n < 1099511627776) (hi : P.info? e = some i) (hz : i.zero = some z0)
   (hs : z0.cells.size = i.size) (hb : n * i.bytes ≤ 281474976710656) (hnew : new = (List.replicate n z0.cells.toList).flatten)
 | rows (dd : TypeDesc) (hu : P.underlying xType = some dd) (hd : ∀ k, dd ≠ .int k) (hl : ∀ w', (Builtin.lenOf x).run P w' = .ok n w')
   (hf : ∀ w', w'.heap = w.heap → (Builtin.firstCells (P.cellsOf e) n x).run P w' = .ok new.toArray w')
theorem zeroCells_list (z : Array Value) (n : Nat) : (Builtin.zeroCells z n).toList = (List.replicate n z.toList).flatten := made_list z n
theorem append_room (w : World) {sType xType ty e : TypeId} {b o sLen sCap n : Nat} {x : Value} {new : List Value} {i : TypeInfo} (hu : P.underlying sType = some (.slice e)) (hi : P.info? e = some i) (hs : Src P w e xType x n new)
  (hroom : sLen + n ≤ sCap) (hc : ∀ j, j < new.length → (w.cell? ⟨b, o + sLen * i.size + j, none⟩).isSome = true) (hf : ∀ j, j < new.length → w.frozen? ⟨b, o + sLen * i.size + j, none⟩ = false) (h1 : ∀ v ∈ new, v.oneCell' = true) :
  (Builtin.append_ #[sType, xType] ty #[.slice (some ⟨b, o, none⟩) sLen sCap, x]).run P w = .ok (.slice (some ⟨b, o, none⟩) (sLen + n) sCap) (w.setCells b (o + sLen * i.size) new) := by
 have hst := run_storeCells_cells (P := P) b (o + sLen * i.size) new 0 w (by simpa using hc) (by simpa using hf) h1
 simp only [Nat.add_zero] at hst
 have hadd : (⟨b, o, none⟩ : Addr).add (sLen * i.size) = ⟨b, o + sLen * i.size, none⟩ := add_none b o _
 cases hs with
 | zeros k kk i' z0 hux hx hn hi' hz hsz hb hnew =>
  have : i' = i := by rw [hi] at hi'; exact (Option.some.inj hi').symm
  subst this
  subst hx
  have hw : IntKind.i64.wrap (n : Int) = n := by rw [IntKind.wrap_i64]; omega
  have hneg : ¬ ((n : Int) < 0) := by omega
  have hbig : ¬ (281474976710656 < (n : Int) * (i'.bytes : Int)) := by
   have : ((n * i'.bytes : Nat) : Int) = (n : Int) * (i'.bytes : Int) := by simp
   omega
  by_cases h0 : n * i'.size = 0
  ·have hnil : new = [] := by
    rw [hnew, ← List.length_eq_zero_iff]
    simp only [List.length_flatten, List.map_replicate, Array.length_toList, List.sum_replicate_nat, hsz]
    exact h0
   subst hnil
   simp [Builtin.append_, run_underlying hu, run_underlying hux, sizeOf, typeInfo, hi, asInt, asIntOf, hw, hneg, hbig, hroom, h0, storeCells, World.setCells]
  ·have hnew' : (Builtin.zeroCells z0.cells n).toList = new := by rw [zeroCells_list, hnew]
   simp [Builtin.append_, run_underlying hu, run_underlying hux, sizeOf, typeInfo, zeroValue, hi, hz, asInt, asIntOf, hw, hneg, hbig, hroom, h0, hadd, hnew', hst]
 | rows dd hux hd hl hfx =>
  have hcs : P.cellsOf e = i.size := by simp [Program.cellsOf, hi]
  have hfx' := hfx w rfl
  rw [hcs] at hfx'
  simp [Builtin.append_, run_underlying hu, run_underlying hux, sizeOf, typeInfo, hi, hl, hroom, hfx', hadd, hst]
theorem append_grow (w : World) {sType xType ty e : TypeId} {base : Option Addr} {sLen sCap n : Nat} {x : Value} {old new : List Value} {i : TypeInfo} {z0 : Value} (hu : P.underlying sType = some (.slice e)) (hi : P.info? e = some i) (hz : i.zero = some z0) (hs : Src P w e xType x n new)
  (hgrow : sCap < sLen + n) (ho : ∀ w', w'.heap = w.heap → (Builtin.firstCells i.size sLen (.slice base sLen sCap)).run P w' = .ok old.toArray w') (h63 : sLen + n ≤ 4611686018427387904) (h47 : (sLen + n) * i.bytes ≤ 140737488355328) :
  (Builtin.append_ #[sType, xType] ty #[.slice base sLen sCap, x]).run P w = .ok (.slice (some ⟨w.heap.size, 0, none⟩) (sLen + n) (grownCap w (sLen + n) sCap e))
   (w.drew.alloc (.cells (old.toArray ++ new.toArray ++ Builtin.zeroCells z0.cells (grownCap w (sLen + n) sCap e - (sLen + n))) e)) := by
 have hn : ¬ (sLen + n ≤ sCap) := by omega
 have h63' : ¬ (9223372036854775807 < ((sLen : Int) + (n : Int))) := by omega
 have h48' : ¬ (281474976710656 < Builtin.nextslicecap (sLen + n) sCap * i.bytes) := by have := growslice_fits hgrow h47; omega
 have ho' := ho w.drew rfl
 cases hs with
 | zeros k kk i' z0' hux hx hnn hi' hz' hsz hb hnew =>
  have : i' = i := by rw [hi] at hi'; exact (Option.some.inj hi').symm
  subst this
  have : z0' = z0 := by rw [hz] at hz'; exact (Option.some.inj hz').symm
  subst this
  subst hx
  have hw : IntKind.i64.wrap (n : Int) = n := by rw [IntKind.wrap_i64]; omega
  have hneg : ¬ ((n : Int) < 0) := by omega
  have hbig : ¬ (281474976710656 < (n : Int) * (i'.bytes : Int)) := by
   have : ((n * i'.bytes : Nat) : Int) = (n : Int) * (i'.bytes : Int) := by simp
   omega
  by_cases h0 : n * i'.size = 0
  ·have hnil : new = [] := by
    rw [hnew, ← List.length_eq_zero_iff]
    simp only [List.length_flatten, List.map_replicate, Array.length_toList, List.sum_replicate_nat, hsz]
    exact h0
   subst hnil
   simp [Builtin.append_, run_underlying hu, run_underlying hux, sizeOf, typeInfo, zeroValue, hi, hz, asInt, asIntOf, hw, hneg, hbig, hn, h63', h48', h0, Question.forced, ho', newRow, grownCap]
  ·have hnew' : (Builtin.zeroCells z0'.cells n) = new.toArray := by apply Array.ext'; rw [zeroCells_list, hnew]
   simp [Builtin.append_, run_underlying hu, run_underlying hux, sizeOf, typeInfo, zeroValue, hi, hz, asInt, asIntOf, hw, hneg, hbig, hn, h63', h48', h0, Question.forced, ho', hnew', newRow, grownCap]
   congr 2
   apply Array.ext'
   simp
 | rows dd hux hd hl hfx =>
  have hcs : P.cellsOf e = i.size := by simp [Program.cellsOf, hi]
  have hfx' := hfx w.drew rfl
  rw [hcs] at hfx'
  simp [Builtin.append_, run_underlying hu, run_underlying hux, sizeOf, typeInfo, zeroValue, hi, hz, hl, hn, h63', h48', Question.forced, ho', hfx', newRow, grownCap]
  congr 2
  apply Array.ext'
  simp
end Go.Ab
namespace Go.Ab
variable {P : Program} {C : Ctx} {n : Nat}
def Fin (P : Program) (C : Ctx) (d : Nat) (env : List AV) (tmps : Array Value) (S : Sto) (cons : List Tmp) (dst : Tmp) (v : AV) (x : Sem Value) : Prop :=
 ∃ (c : Value) (C' : Ctx), x.run P C.w = .ok c C'.w ∧ EnvRel C' d ((stripAt env cons).set dst v) (tmps.setIfInBounds dst c) ∧ HeapRel C' S ∧ Ext (Deep d) C C'
theorem got_fin {d : Nat} {env : List AV} {tmps : Array Value} {S : Sto} {cons : List Tmp} {dst : Tmp} {v : AV} {x : Sem Value} (hE : EnvRel C d env tmps) (hS : HeapRel C S) {c : Value}
  (hr : x.run P C.w = .ok c C.w) (hg : Got C d cons dst v c) : Fin P C d env tmps S cons dst v x := by
 obtain ⟨C', hw, h1, h2, h3⟩ := got_ok hE hS (Ext.refl _ C) hg
 exact ⟨c, C', by rw [hw]; exact hr, h1, h2, h3⟩
theorem made_fin {d : Nat} {env : List AV} {tmps : Array Value} {S : Sto} {cons : List Tmp} {dst : Tmp} {v : AV} {x : Sem Value} (hE : EnvRel C d env tmps)
  (hm : Made P C S d dst v x) : Fin P C d env tmps S cons dst v x := by
 obtain ⟨c, C1, hr, hx, hS, hv⟩ := hm.out
 refine ⟨c, C1, hr, ?_, hS, hx.weaken (fun _ h => h.elim)⟩
 exact EnvRel.set ((hE.mono hx (fun _ _ h => h)).stripAt cons) dst hv
theorem EnvRel.mono2 {X : List Nat → Prop} {C' : Ctx} {d : Nat} {env : List AV} {tmps : Array Value} (h : Ext X C C') (hβ : C'.β = C.β) (hX : ∀ (t : Nat) v, env[t]? = some v → v = .unk ∨ ∀ r, ¬ X ((d + 2) :: t :: r)) (hE : EnvRel C d env tmps) : EnvRel C' d env tmps := by
 refine ⟨hE.1, fun t v hv => ?_⟩
 obtain ⟨c, hc, hr⟩ := hE.2 t v hv
 refine ⟨c, hc, ?_⟩
 rcases hX t v hv with rfl | hX
 ·simp [VRel]
 by_cases hl : isLp v = true
 ·cases v <;> simp [isLp] at hl
  simp only [VRel] at hr ⊢
  obtain ⟨d', r, hp, rfl⟩ := hr
  exact ⟨d', r, hp, by rw [hβ]⟩
 ·exact VRel.mono h v _ c (fun q hq => by cases hq; exact ⟨by simp, by simp [froz], fun r => hX r⟩) (by simpa using hl) hr
theorem setCells_heap : ∀ (vs : List Value) (w : World) (b o : Nat), (w.setCells b o vs).heap.size = w.heap.size ∧ (∀ b', b' ≠ b → (w.setCells b o vs).heap[b']? = w.heap[b']?) ∧
  (∀ cs e fr, w.heap[b]? = some (.cells cs e fr) → ∃ cs', (w.setCells b o vs).heap[b]? = some (.cells cs' e fr) ∧ cs'.size = cs.size) ∧
  (∀ x, w.heap[b]? = some x → isCellsO x = false → (w.setCells b o vs).heap[b]? = some x)
 | [], w, b, o => ⟨rfl, fun _ _ => rfl, fun cs e fr h => ⟨cs, h, rfl⟩, fun x h _ => h⟩
 | v :: vs, w, b, o => by
  obtain ⟨h1, h2, h3, h4⟩ := setCells_heap vs (w.setCell ⟨b, o, none⟩ v) b (o + 1)
  have s1 : (w.setCell ⟨b, o, none⟩ v).heap.size = w.heap.size := by simp [World.setCell]
  have s2 : ∀ b', b' ≠ b → (w.setCell ⟨b, o, none⟩ v).heap[b']? = w.heap[b']? := by
   intro b' hb
   simp only [World.setCell]
   rw [Array.getElem?_modify]
   simp [Ne.symm hb]
  have s3 : ∀ x, w.heap[b]? = some x → (w.setCell ⟨b, o, none⟩ v).heap[b]? = some (match x with | .cells c elem frozen => .cells (c.setIfInBounds o v) elem frozen | o => o) := by
   intro x hx
   simp only [World.setCell]
   rw [Array.getElem?_modify, hx]
   simp
   cases x <;> rfl
  refine ⟨h1.trans s1, fun b' hb => (h2 b' hb).trans (s2 b' hb), fun cs e fr hx => ?_, fun x hx hn => ?_⟩
  ·obtain ⟨cs', a, e'⟩ := h3 _ _ _ (s3 _ hx)
   exact ⟨cs', a, by rw [e']; simp⟩
  ·refine h4 x ?_ hn
   rw [s3 x hx]
   cases x <;> first | rfl | simp [isCellsO] at hn
theorem setCells_out : ∀ (vs : List Value) (w : World) (b o : Nat), (w.setCells b o vs).os = w.os ∧ (w.setCells b o vs).tape = w.tape ∧ (w.setCells b o vs).output = w.output
 | [], _, _, _ => ⟨rfl, rfl, rfl⟩
 | v :: vs, w, b, o => setCells_out vs (w.setCell ⟨b, o, none⟩ v) b (o + 1)
theorem setCells_old {C' : Ctx} {b o : Nat} {vs : List Value} (hw : C'.w = C.w.setCells b o vs) (hb : C'.base = C.base) : Old C C' := by
 obtain ⟨h1, h2, h3, _⟩ := setCells_heap vs C.w b o
 obtain ⟨o1, o2, o3⟩ := setCells_out vs C.w b o
 refine ⟨hb, by rw [hw, h1]; exact Nat.le_refl _, by rw [hw, o1], by rw [hw, o2], by rw [hw, o3], fun b' cs e fr _ h => ?_⟩
 rw [hw]
 by_cases hbb : b' = b
 ·subst hbb
  obtain ⟨cs', a, _⟩ := h3 cs e fr h
  exact ⟨cs', a⟩
 ·exact ⟨cs, (h2 b' hbb).trans h⟩
def Ctx.fill (C : Ctx) (b o : Nat) (vs : List Value) : Ctx :=
 { C with w := C.w.setCells b o vs, L := fun b' o' => if b' = b ∧ o ≤ o' ∧ o' < o + vs.length then froz else C.L b' o' }
theorem Ext.fill {b o : Nat} {vs : List Value} {q : List Nat} (hq : q ≠ froz) (hl : ∀ j, o ≤ j → j < o + vs.length → C.L b j = q) : Ext (fun l => l = q) C (C.fill b o vs) where
 n := Nat.le_refl _
 ids := fun _ _ => ⟨rfl, rfl, rfl, rfl⟩
 fr := fun b' o' h => by
  have hne : ¬ (b' = b ∧ o ≤ o' ∧ o' < o + vs.length) := by
   rintro ⟨rfl, h1, h2⟩
   exact hq ((hl o' h1 h2).symm.trans h)
  refine ⟨by show (if _ then _ else _) = _; rw [if_neg hne]; exact h, ?_⟩
  obtain ⟨_, h2, h3, h4⟩ := setCells_heap vs C.w b o
  refine ⟨World.cell?_setCells_out b vs o C.w _ (fun hb _ => ?_), fun x hx hn => ?_⟩
  ·simp only at hb ⊢
   by_cases h1 : o' < o
   ·exact .inl h1
   ·exact .inr (Nat.le_of_not_lt fun h5 => hne ⟨hb, by omega, h5⟩)
  ·by_cases hb : b' = b
   ·subst hb; exact h4 x hx hn
   ·exact (h2 b' hb).trans hx
 keep := fun b' o' h hx => by
  have hne : ¬ (b' = b ∧ o ≤ o' ∧ o' < o + vs.length) := by
   rintro ⟨rfl, h1, h2⟩
   exact hx (hl o' h1 h2)
  refine ⟨by show (if _ then _ else _) = _; rw [if_neg hne], ?_⟩
  obtain ⟨_, h2, h3, h4⟩ := setCells_heap vs C.w b o
  refine ⟨World.cell?_setCells_out b vs o C.w _ (fun hb _ => ?_), fun x hx hn => ?_⟩
  ·simp only at hb ⊢
   by_cases h1 : o' < o
   ·exact .inl h1
   ·exact .inr (Nat.le_of_not_lt fun h5 => hne ⟨hb, by omega, h5⟩)
  ·by_cases hb : b' = b
   ·subst hb; exact h4 x hx hn
   ·exact (h2 b' hb).trans hx
 β := fun _ _ _ => rfl
 shape := fun b' cs e fr h => by
  obtain ⟨_, h2, h3, _⟩ := setCells_heap vs C.w b o
  by_cases hb : b' = b
  ·subst hb
   obtain ⟨cs', a, e'⟩ := h3 cs e fr h
   exact ⟨cs', fr, a, e', fun hf => hf⟩
  ·exact ⟨cs, fr, (h2 b' hb).trans h, rfl, fun hf => hf⟩
 old := setCells_old rfl rfl
theorem bigA_bounds {e : TypeId} {n : Nat} (h : ¬ bigA P e n) : P.cellsOf e ≠ 0 ∧ n * P.bytesOf e ≤ 140737488355328 ∧ n ≤ 4611686018427387904 := by
 unfold bigA at h
 refine ⟨fun h' => h (.inl h'), ?_, ?_⟩
 ·exact Nat.le_of_not_lt fun h' => h (.inr (.inl h'))
 ·exact Nat.le_of_not_lt fun h' => h (.inr (.inr h'))
structure More (P : Program) (C : Ctx) (e xType : TypeId) (cx : Value) (more : List (List AV)) : Prop where
 len : ∀ r ∈ more, r.length = P.cellsOf e
 src : ∃ new : List Value, Src P C.w e xType cx more.length new ∧ ListRel C more.flatten none 0 new ∧ ∀ x ∈ new, flat x
theorem run_firstCells_rows {rows : List (List AV)} {b o es cap : Nat} {P : Program} (hr : RowsRel C rows b o es) :
  ∃ old : List Value, ListRel C rows.flatten none 0 old ∧ (∀ x ∈ old, flat x) ∧ ∀ w', w'.heap = C.w.heap → (Builtin.firstCells es rows.length (.slice (some ⟨b, o, none⟩) rows.length cap)).run P w' = .ok old.toArray w' := by
 obtain ⟨vs, h1, h2, h3⟩ := (cells_of_rows hr).vals
 refine ⟨vs, h1, h2, fun w' hw => ?_⟩
 refine run_firstCells_some w' es rows.length _ _ cap vs (by rw [h1.length, rows_length hr]) (fun j v hj => ?_)
 rw [add_none]
 have := h3 j v hj
 simp only [World.cell?, hw] at this ⊢
 exact this
theorem append_some_none (w : World) {sType xType ty e : TypeId} {a : Addr} {sLen sCap : Nat} {x : Value} {i : TypeInfo} (hu : P.underlying sType = some (.slice e)) (hi : P.info? e = some i) (hs : Src P w e xType x 0 []) (hle : sLen ≤ sCap) :
  (Builtin.append_ #[sType, xType] ty #[.slice (some a) sLen sCap, x]).run P w = .ok (.slice (some a) sLen sCap) w := by
 cases hs with
 | zeros k kk i' z0 hux hx hn hi' hz hsz hb hnew =>
  subst hx
  have : i' = i := by rw [hi] at hi'; exact (Option.some.inj hi').symm
  subst this
  have hw : IntKind.i64.wrap ((0 : Nat) : Int) = 0 := by rw [IntKind.wrap_i64]; omega
  simp [Builtin.append_, run_underlying hu, run_underlying hux, sizeOf, typeInfo, hi, asInt, asIntOf, IntKind.wrap_i64, hle, storeCells]
 | rows dd hux hd hl hfx =>
  have hcs : P.cellsOf e = i.size := by simp [Program.cellsOf, hi]
  have hfx' := hfx w rfl
  rw [hcs] at hfx'
  simp [Builtin.append_, run_underlying hu, run_underlying hux, sizeOf, typeInfo, hi, hl, hfx', hle, storeCells]
theorem append_nil_none (w : World) {sType xType ty e : TypeId} {x : Value} {i : TypeInfo} (hu : P.underlying sType = some (.slice e)) (hi : P.info? e = some i) (hs : Src P w e xType x 0 []) :
  (Builtin.append_ #[sType, xType] ty #[.slice none 0 0, x]).run P w = .ok (.slice none 0 0) w := by
 cases hs with
 | zeros k kk i' z0 hux hx hn hi' hz hsz hb hnew =>
  subst hx
  have : i' = i := by rw [hi] at hi'; exact (Option.some.inj hi').symm
  subst this
  have hw : IntKind.i64.wrap ((0 : Nat) : Int) = 0 := by rw [IntKind.wrap_i64]; omega
  simp [Builtin.append_, run_underlying hu, run_underlying hux, sizeOf, typeInfo, hi, asInt, asIntOf, IntKind.wrap_i64]
 | rows dd hux hd hl hfx =>
  have hcs : P.cellsOf e = i.size := by simp [Program.cellsOf, hi]
  have hfx' := hfx w rfl
  rw [hcs] at hfx'
  simp [Builtin.append_, run_underlying hu, run_underlying hux, sizeOf, typeInfo, hi, hl, hfx']
theorem RowsRel.append : ∀ {as bs : List (List AV)} {b o es : Nat}, RowsRel C as b o es → RowsRel C bs b (o + as.length * es) es → RowsRel C (as ++ bs) b o es
 | [], _, _, _, _, _, h => by simpa using h
 | a :: as, bs, b, o, es, h, h' => by
  simp only [RowsRel, List.cons_append] at h ⊢
  refine ⟨h.1, h.2.1, h.2.2.append ?_⟩
  rwa [show o + es + as.length * es = o + (a :: as).length * es by simp [Nat.add_mul]; omega]
theorem grown_raw {sType xType ty e : TypeId} {base : Option Addr} {sLen sCap : Nat} {cx : Value} {rows more : List (List AV)} {old : List Value}
  (hu : P.underlying sType = some (.slice e)) (hm : More P C e xType cx more)
  (hz : ∃ i z0, P.info? e = some i ∧ i.zero = some z0 ∧ z0.cells.size = i.size) (hbig : ¬ bigA P e (rows.length + more.length)) (hrow : ∀ r ∈ rows, r.length = P.cellsOf e) (hlen : rows.length = sLen)
  (hor : ListRel C rows.flatten none 0 old) (hof : ∀ x ∈ old, flat x) (ho : ∀ w', w'.heap = C.w.heap → (Builtin.firstCells (P.cellsOf e) sLen (.slice base sLen sCap)).run P w' = .ok old.toArray w') (hgrow : sCap < sLen + more.length) :
  RawNew P C (P.cellsOf e) (rows ++ more) (Builtin.append_ #[sType, xType] ty #[.slice base sLen sCap, cx]) := by
 obtain ⟨i, z0, hi, hz0, hzs⟩ := hz
 have hsz : P.cellsOf e = i.size := by simp [Program.cellsOf, hi]
 have hby : P.bytesOf e = i.bytes := by simp [Program.bytesOf, hi]
 obtain ⟨hml, new, hsrc, hnr, hnf⟩ := hm
 obtain ⟨b1, b2, b3⟩ := bigA_bounds hbig
 have hrun := append_grow (P := P) (ty := ty) C.w hu hi hz0 hsrc hgrow (by rw [← hsz]; exact ho) (by omega) (by rw [← hby, ← hlen]; exact b2)
 have hge := grownCap_ge C.w (sLen + more.length) sCap e
 obtain ⟨k, hk⟩ : ∃ k, grownCap C.w (sLen + more.length) sCap e = sLen + more.length + k := ⟨_, (Nat.add_sub_cancel' hge).symm⟩
 have hor' : ListRel C (rows ++ more).flatten none 0 (old ++ new) := by
  rw [List.flatten_append]
  exact hor.append (ListRel.plain hnr)
 have hall : ∀ r ∈ rows ++ more, r.length = P.cellsOf e := fun r hr => (List.mem_append.1 hr).elim (hrow r) (hml r)
 refine ⟨C.w.drew, old ++ new, Builtin.zeroCells z0.cells (grownCap C.w (sLen + more.length) sCap e - (sLen + more.length)), e, (0, 0), grownCap C.w (sLen + more.length) sCap e, ⟨rfl, rfl, rfl, rfl⟩, ?_, by simp; omega, by omega, hall, hor',
  fun x hx => (List.mem_append.1 hx).elim (hof x) (hnf x), ?_, .inl rfl⟩
 ·rw [hrun]
  have e1 : (rows ++ more).length = sLen + more.length := by simp [hlen]
  have e2 : old.toArray ++ new.toArray = (old ++ new).toArray := by simp
  rw [e1, e2]
 ·rw [size_zeroCells, hzs, ← hsz, hor'.length, flatten_length hall, hk, Nat.add_sub_cancel_left, ← Nat.add_mul]
  congr 1; simp; omega
theorem grown_made {S : Sto} {d dst : Nat} (hS : HeapRel C S) {sType xType ty e : TypeId} {base : Option Addr} {sLen sCap : Nat} {cx : Value} {rows more : List (List AV)} {old : List Value}
  (hu : P.underlying sType = some (.slice e)) (hm : More P C e xType cx more)
  (hz : ∃ i z0, P.info? e = some i ∧ i.zero = some z0 ∧ z0.cells.size = i.size) (hbig : ¬ bigA P e (rows.length + more.length)) (hrow : ∀ r ∈ rows, r.length = P.cellsOf e) (hlen : rows.length = sLen)
  (hor : ListRel C rows.flatten none 0 old) (hof : ∀ x ∈ old, flat x) (ho : ∀ w', w'.heap = C.w.heap → (Builtin.firstCells (P.cellsOf e) sLen (.slice base sLen sCap)).run P w' = .ok old.toArray w') (hgrow : sCap < sLen + more.length) :
  Made P C S d dst (.sl true (P.cellsOf e) (rows ++ more)) (Builtin.append_ #[sType, xType] ty #[.slice base sLen sCap, cx]) :=
 (grown_raw hu hm hz hbig hrow hlen hor hof ho hgrow).made hS
theorem append_fin {d : Nat} {env : List AV} {tmps : Array Value} {S : Sto} {cons : List Tmp} {t dst : Nat} (hE : EnvRel C d env tmps) (hS : HeapRel C S) (ht : t ∈ cons) {sType xType ty e : TypeId} {base : AV} {cb cx : Value} {more : List (List AV)} {v : AV}
  (hu : P.underlying sType = some (.slice e)) (hb : VRel C base (some [d + 2, t]) cb) (hm : More P C e xType cx more)
  (hz : ∃ i z0, P.info? e = some i ∧ i.zero = some z0 ∧ z0.cells.size = i.size)
  (h : appInline P e base more = some v) : Fin P C d env tmps S cons dst v (Builtin.append_ #[sType, xType] ty #[cb, cx]) := by
 have hz' := hz
 have hm' := hm
 obtain ⟨i, z0, hi, hz0, hzs⟩ := hz
 have hsz : P.cellsOf e = i.size := by simp [Program.cellsOf, hi]
 obtain ⟨hml, new, hsrc, hnr, hnf⟩ := hm
 have hnl : new.length = more.length * P.cellsOf e := by rw [hnr.length, flatten_length hml]
 unfold appInline at h
 split at h
 ·-- nothing is appended
  have hnil : new = [] := by rw [← List.length_eq_zero_iff, hnl]; simp
  subst hnil
  split at h
  ·cases h
   simp only [VRel] at hb
   subst hb
   exact got_fin hE hS (c := .slice none 0 0) (append_nil_none C.w hu hi hsrc) (Got.plain (by simp only [VRel]))
  ·rename_i own es rows
   cases h
   have hb' := hb
   simp only [VRel] at hb'
   obtain ⟨b, o, cap, s, rfl, hl, hes, hr, _, _⟩ := hb'
   refine got_fin hE hS ?_ (Got.from ht hb rfl)
   refine append_some_none C.w hu hi hsrc (by simpa using hl)
  ·cases h
 ·rename_i m ms
  split at h
  ·split at h
   ·cases h
   ·rename_i hbig
    cases h
    simp only [VRel] at hb
    subst hb
    have := grown_made (P := P) (ty := ty) (d := d) (dst := dst) hS (base := none) (sLen := 0) (sCap := 0) (rows := []) (old := []) hu hm' hz' (by simpa using hbig) (by simp) rfl (by simp [ListRel]) (by simp)
     (fun w' _ => by simpa using run_firstCells_none w' _ 0 0 0) (by simp)
    exact made_fin hE this
  ·rename_i own es rows
   split at h
   ·cases h
   ·rename_i hc
    have hes' : es = P.cellsOf e := Decidable.byContradiction fun hne => hc (.inl hne)
    have hown : own = true := by cases own <;> first | rfl | exact absurd (.inr (.inl rfl)) hc
    have hbig : ¬ bigA P e (rows.length + (m :: ms).length) := fun hb' => hc (.inr (.inr hb'))
    cases h
    subst hes'
    subst hown
    have hb' := hb
    simp only [VRel] at hb'
    obtain ⟨b, o, cap, s, rfl, hl, hes, hr, hsp, hs0⟩ := hb'
    obtain ⟨q, hq, hspare, _⟩ := hsp trivial
    cases hq
    rcases hs0 with rfl | hc0
    rotate_left
    ·have hnil : rows = [] := List.eq_nil_of_length_eq_zero (by omega)
     subst hnil
     have := grown_made (P := P) (ty := ty) (d := d) (dst := dst) hS (base := some ⟨b, o, s⟩) (sLen := 0) (sCap := cap) (rows := []) (old := []) hu hm' hz' (by simpa using hbig) (by simp) rfl (by simp [ListRel]) (by simp)
      (fun w' _ => run_firstCells_some w' _ 0 _ _ cap [] (by simp) (by simp)) (by simp; omega)
     exact made_fin hE this
    by_cases hroom : rows.length + (m :: ms).length ≤ cap
    ·have hnpos : 0 < new.length := by rw [hnl]; exact Nat.mul_pos (by simp) (by omega)
     have hlt : o + rows.length * P.cellsOf e < o + cap * P.cellsOf e := by
      have h1 : (rows.length + 1) * P.cellsOf e ≤ cap * P.cellsOf e := Nat.mul_le_mul_right _ (by simp at hroom; omega)
      rw [Nat.add_mul] at h1; omega
     have hfit : o + rows.length * P.cellsOf e + new.length ≤ o + cap * P.cellsOf e := by
      have h1 : (rows.length + (m :: ms).length) * P.cellsOf e ≤ cap * P.cellsOf e := Nat.mul_le_mul_right _ hroom
      rw [Nat.add_mul] at h1; rw [hnl]; omega
     obtain ⟨arr, el, fr, hblk, hsize, hfrok⟩ := hspare.1 hlt
     have hcell : ∀ j, j < new.length → (C.w.cell? ⟨b, o + rows.length * P.cellsOf e + j, none⟩).isSome = true := by
      intro j hj
      simp only [World.cell?, hblk]
      simp; omega
     have hnfr : ∀ j, j < new.length → C.w.frozen? ⟨b, o + rows.length * P.cellsOf e + j, none⟩ = false := by
      intro j hj
      obtain ⟨lo, hi'⟩ := fr
      simp only [World.frozen?, hblk]
      rcases hfrok with h1 | h1 <;> simp at h1 ⊢ <;> omega
     have hrun := append_room (P := P) (ty := ty) C.w hu hi hsrc hroom (by rw [← hsz]; exact hcell) (by rw [← hsz]; exact hnfr) (fun x hx => flat_one (hnf x hx))
     rw [← hsz] at hrun
     -- the room becomes the slot's, then what is written is frozen
     let C1 := C.map (mv d t dst)
     let C2 := C1.fill b (o + rows.length * P.cellsOf e) new
     have hL1 : ∀ j, o + rows.length * P.cellsOf e ≤ j → j < o + cap * P.cellsOf e → C1.L b j = [d + 2, dst] := by
      intro j a1 a2
      show mv d t dst (C.L b j) = _
      rw [hspare.2 j a1 a2]
      exact mv_same d t dst []
     have hx2 : Ext (fun l => l = [d + 2, dst]) C1 C2 := Ext.fill (by simp [froz]) (fun j a1 a2 => hL1 j a1 (by omega))
     have hblt : b < C.w.heap.size := (Array.getElem?_eq_some_iff.1 hblk).1
     have hS1 : HeapRel C1 S := hS.map (mv_froz d t dst) rfl (mv_heap d t dst)
     have hS2 : HeapRel C2 S := by
      refine hS1.mono hx2 rfl (fun r hr' => by simp at hr') (fun b' o' hb' => ?_)
      have hsz' : C2.w.heap.size = C.w.heap.size := (setCells_heap new C.w b _).1
      show (if _ then _ else _) = _
      rw [if_neg (by rintro ⟨rfl, _⟩; omega)]
      exact hS1.fresh b' o' (by show C.w.heap.size ≤ b'; omega)
     have hE1 : EnvRel C1 d ((stripAt env cons).set dst .unk) tmps := by
      refine EnvRel.setA ?_ dst (by simp [VRel])
      refine EnvRel.map (mv_froz d t dst) (hE.stripAt cons) (fun t' u hu' => ?_)
      by_cases ht' : t' ∈ cons
      ·exact .inr (stripAt_get cons env t' u hu' (.inl ht'))
      ·exact .inl (fun r => mv_other d t dst t' (fun e' => ht' (e' ▸ ht)) r)
     have hE2 : EnvRel C2 d ((stripAt env cons).set dst .unk) tmps := by
      refine hE1.mono2 hx2 rfl (fun t' v' hv' => ?_)
      by_cases htd : t' = dst
      ·subst htd
       left
       rw [List.getElem?_set] at hv'
       simp only [if_true] at hv'
       split at hv' <;> cases hv'
       rfl
      ·right
       intro r hr'
       simp at hr'
       exact htd hr'.1
     have hv2 : VRel C2 (.sl true (P.cellsOf e) (rows ++ (m :: ms))) (some [d + 2, dst]) (.slice (some ⟨b, o, none⟩) (rows.length + (m :: ms).length) cap) := by
      simp only [VRel]
      refine ⟨b, o, cap, none, by simp, by simpa using hroom, hes, ?_, fun _ => ⟨_, rfl, ⟨fun hlt' => ?_, fun j a1 a2 => ?_⟩, fun _ => ?_⟩, .inl rfl⟩
      ·refine RowsRel.append (RowsRel.mono hx2 rows _ _ _ (RowsRel.map (mv_froz d t dst) rows _ _ _ hr)) ?_
       have hnr1 : ListRel C1 (m :: ms).flatten none 0 new := ListRel.map (mv_froz d t dst) _ none none 0 _ (.inl ⟨rfl, rfl⟩) hnr
       refine rows_of hml (cells_of (ListRel.mono hx2 _ none 0 _ (Off.none _) hnr1) hnf (fun j c hj => ?_))
       have hjl := (List.getElem?_eq_some_iff.1 hj).1
       refine ⟨?_, ?_⟩
       ·have := World.cell?_setCells_in b new (o + rows.length * P.cellsOf e) C.w hcell j hjl
        rw [List.getElem?_eq_getElem hjl] at hj
        cases hj
        exact this
       ·show (if _ then _ else _) = _
        rw [if_pos ⟨rfl, by omega, by omega⟩]
      ·obtain ⟨cs', fr', h1, h2, h3⟩ := hx2.shape b arr el fr hblk
       exact ⟨cs', el, fr', h1, by omega, by rw [h2]; exact h3 hfrok⟩
      ·have e1 : (rows ++ m :: ms).length * P.cellsOf e = rows.length * P.cellsOf e + new.length := by rw [List.length_append, Nat.add_mul, hnl]
       rw [e1] at a1
       show (if _ then _ else _) = _
       rw [if_neg (by rintro ⟨_, h1, h2⟩; omega)]
       exact hL1 j (by omega) a2
      ·rw [hx2.old.base]
       exact hS1.base.of_label (o := o + rows.length * P.cellsOf e) (by rw [hL1 _ (Nat.le_refl _) hlt]; simp [froz])
     refine ⟨_, C2, hrun, ?_, hS2, ?_⟩
     ·have := hE2.set dst hv2
      rwa [List.set_set] at this
     ·refine (Ext.map C (mv_froz d t dst) (mv_deep d t dst)).trans (hx2.weaken (fun l hl => ?_))
      subst hl
      exact ⟨d + 2, [dst], rfl, .inr (Nat.le_refl _)⟩
    ·have hrl : ∀ r ∈ rows, r.length = P.cellsOf e := by
      intro r hr'
      obtain ⟨j, hj⟩ := List.getElem?_of_mem hr'
      exact (hr.get hj).1
     obtain ⟨old, h1, h2, h3⟩ := run_firstCells_rows (P := P) (cap := cap) hr
     have := grown_made (P := P) (ty := ty) (d := d) (dst := dst) hS (base := some ⟨b, o, none⟩) (sLen := rows.length) (sCap := cap) hu hm' hz' hbig hrl rfl h1 h2 h3 (by omega)
     exact made_fin hE this
  ·cases h
end Go.Ab
namespace Go.Ab
variable {P : Program} {C : Ctx} {n : Nat}
theorem ArrRow.vals {q : List Nat} : ∀ {cs : List AV} {b o : Nat}, ArrRow C q cs b o → Vals C cs b o
 | [], b, o, _ => Vals.nil C b o
 | _ :: _, _, _, ⟨⟨_, h1, _, _, h4, h5⟩, hr⟩ => Vals.cons h1 h4 h5 hr.vals
theorem Vals.append {as bs : List AV} {b o : Nat} (h : Vals C as b o) (h' : Vals C bs b (o + as.length)) : Vals C (as ++ bs) b o := by
 obtain ⟨vs, h1, h2, h3⟩ := h
 obtain ⟨us, g1, g2, g3⟩ := h'
 refine ⟨vs ++ us, h1.append (ListRel.plain g1), fun x hx => (List.mem_append.1 hx).elim (h2 x) (g2 x), fun j v hj => ?_⟩
 by_cases hlt : j < vs.length
 ·rw [List.getElem?_append_left hlt] at hj
  exact h3 j v hj
 ·rw [List.getElem?_append_right (by omega)] at hj
  have := g3 _ v hj
  have hl := h1.length
  rwa [show o + as.length + (j - vs.length) = o + j by omega] at this
theorem ArrRel.vals {q : List Nat} : ∀ {rows : List (List AV)} {b o es : Nat}, ArrRel C q rows b o es → Vals C rows.flatten b o
 | [], b, o, _, _ => by simpa using Vals.nil C b o
 | r :: rs, b, o, es, ⟨h1, h2, h3⟩ => by
  simp only [List.flatten_cons]
  exact h2.vals.append (by rw [h1]; exact h3.vals)
theorem ArrRel.len {q : List Nat} : ∀ {rows : List (List AV)} {b o es : Nat}, ArrRel C q rows b o es → ∀ r ∈ rows, r.length = es
 | [], _, _, _, _, _, h => by cases h
 | r :: rs, b, o, es, ⟨h1, _, h3⟩, x, hx => by
  rcases List.mem_cons.1 hx with rfl | hx
  ·exact h1
  ·exact h3.len x hx
theorem ArrRel.drop {q : List Nat} : ∀ {rows : List (List AV)} {b o es : Nat} (k : Nat), ArrRel C q rows b o es → ArrRel C q (rows.drop k) b (o + k * es) es
 | [], _, _, _, k, _ => by cases k <;> trivial
 | _ :: _, _, _, _, 0, h => by simpa using h
 | r :: rs, b, o, es, k + 1, ⟨_, _, h3⟩ => by
  have := h3.drop k
  rw [show o + (k + 1) * es = o + es + k * es by rw [Nat.add_mul]; omega]
  simpa using this
theorem ArrRel.take {q : List Nat} : ∀ {rows : List (List AV)} {b o es : Nat} (k : Nat), ArrRel C q rows b o es → ArrRel C q (rows.take k) b o es
 | [], _, _, _, k, _ => by cases k <;> trivial
 | _ :: _, _, _, _, 0, _ => by simp [ArrRel]
 | _ :: _, _, _, _, k + 1, ⟨h1, h2, h3⟩ => ⟨h1, h2, h3.take k⟩
theorem RowsRel.len : ∀ {rows : List (List AV)} {b o es : Nat}, RowsRel C rows b o es → ∀ r ∈ rows, r.length = es := by
 intro rows b o es h r hr
 obtain ⟨j, hj⟩ := List.getElem?_of_mem hr
 exact (h.get hj).1
theorem get_mem {S : Sto} {id : Nat} {o : Obj} (h : S.get id = some o) : (id, o) ∈ S.heap := by
 have key : ∀ l : List (Nat × Obj), Sto.look id l = some o → (id, o) ∈ l := by
  intro l
  induction l with
  | nil => intro h; cases h
  | cons p l ih =>
   obtain ⟨i, x⟩ := p
   intro h
   unfold Sto.look at h
   split at h
   ·rename_i e; cases h; subst e; simp
   ·exact List.mem_cons_of_mem _ (ih h)
 exact key _ h
theorem HeapRel.get {S : Sto} (hS : HeapRel C S) {id : Nat} {o : Obj} (h : S.get id = some o) : id < C.n ∧ ObjRel C id o := by
 obtain ⟨h1, h2⟩ := hS.obj id o (get_mem h)
 exact ⟨by rw [hS.n]; exact h1, h2⟩
theorem firstCells_vals {rows : List (List AV)} {b o es cap : Nat} (hv : Vals C rows.flatten b o) (hl : ∀ r ∈ rows, r.length = es) :
  ∃ old : List Value, ListRel C rows.flatten none 0 old ∧ (∀ x ∈ old, flat x) ∧ ∀ w' (k : Nat), w'.heap = C.w.heap → k = rows.length → (Builtin.firstCells es k (.slice (some ⟨b, o, none⟩) k cap)).run P w' = .ok old.toArray w' := by
 obtain ⟨vs, h1, h2, h3⟩ := hv
 refine ⟨vs, h1, h2, fun w' k hw hk => ?_⟩
 subst hk
 refine run_firstCells_some w' es rows.length _ _ cap vs (by rw [h1.length, flatten_length hl]) (fun j v hj => ?_)
 rw [add_none]
 have := h3 j v hj
 simp only [World.cell?, hw] at this ⊢
 exact this
theorem bytes_rows (s : List UInt8) : (s.map byteRow).flatten = s.map (fun b => AV.int .u8 b.toNat) := by
 induction s with
 | nil => rfl
 | cons a s ih => simp [byteRow, ih]
theorem bytes_rel (C : Ctx) (s : List UInt8) : ∀ i, ListRel C (s.map (fun b => AV.int .u8 b.toNat)) none i (s.map fun b => Value.int .u8 b.toNat) := by
 induction s with
 | nil => intro i; simp [ListRel]
 | cons a s ih =>
  intro i
  simp only [List.map_cons, ListRel]
  exact ⟨_, _, rfl, rfl, by simp only [VRel], ih (i + 1)⟩
theorem rsl_rows {S : Sto} (hS : HeapRel C S) {id es' off len es : Nat} {cx : Value} {rows : List (List AV)} (hx : VRel C (.rsl id es' off len) none cx) (hg : S.get id = some (.arr es rows)) (hlen : off + len ≤ rows.length) :
  ∃ b o cap, cx = .slice (some ⟨b, o, none⟩) len cap ∧ Vals C ((rows.drop off).take len).flatten b o ∧ (∀ r ∈ (rows.drop off).take len, r.length = es) ∧ ((rows.drop off).take len).length = len ∧ 1 ≤ es := by
 obtain ⟨_, hobj⟩ := hS.get hg
 obtain ⟨h1, h2, h3, h4, h5⟩ := hobj
 simp only [VRel] at hx
 obtain ⟨b, o, cap, rfl, hl, hk, hn, hs, ha⟩ := hx
 refine ⟨b, o, cap, rfl, ?_, fun r hr => h4.len r (List.mem_of_mem_drop (List.mem_of_mem_take hr)), by simp; omega, h1⟩
 by_cases hc : cap = 0
 ·have : len = 0 := by omega
  subst this
  simpa using Vals.nil C b o
 ·obtain ⟨rfl, rfl⟩ := ha.resolve_left hc
  rw [h2]
  exact ((h4.drop off).take len).vals
theorem more_of {S : Sto} (hS : HeapRel C S) {e xType : TypeId} {x : AV} {cx : Value} {more : List (List AV)} (hx : VRel C x none cx) (h : moreA P S e xType x = some more) : More P C e xType cx more := by
 unfold moreA at h
 split at h
 ·rename_i k k' nn hu
  simp only [VRel] at hx; subst hx
  split at h
  ·rename_i z hz
   split at h
   ·rename_i hc
    obtain ⟨h0, hlt, hzl, hb⟩ := hc
    cases h
    obtain ⟨i, z0, hi, hz0, hsz, hby, hzr, hzf⟩ := zero_plain (C := C) hz
    have hzs : z0.cells.size = i.size := by have := hzr.length; simp at this; omega
    have hnn : (nn.toNat : Int) = nn := by omega
    refine ⟨fun r hr => by rw [List.eq_of_mem_replicate hr]; exact hzl, (List.replicate nn.toNat z0.cells.toList).flatten, ?_, hzr.replicate _, ?_⟩
    ·refine Src.zeros k k' i z0 hu (by simp [hnn]) (by simp; omega) hi hz0 hzs ?_ (by simp)
     simp only [List.length_replicate]
     have : ((nn.toNat * i.bytes : Nat) : Int) ≤ 281474976710656 := by
      rw [Int.natCast_mul, hnn, ← hby]; exact hb
     omega
    ·intro y hy
     obtain ⟨l, hl, hy⟩ := List.mem_flatten.1 hy
     rw [List.eq_of_mem_replicate hl] at hy
     exact hzf y hy
   ·cases h
  ·cases h
 ·cases h
 ·rename_i dd hni hu _
  have hd : ∀ k, dd ≠ .int k := fun k e => hni k e
  unfold rowsIn at h
  split at h
  ·rename_i id es' off len _
   split at h
   ·rename_i es rows hg
    split at h
    ·rename_i hc
     obtain ⟨rfl, hlen⟩ := hc
     cases h
     obtain ⟨b, o, cap, rfl, hv, hl, hll, _⟩ := rsl_rows hS hx hg hlen
     obtain ⟨old, g1, g2, g3⟩ := firstCells_vals (P := P) (cap := cap) hv hl
     refine ⟨hl, old, Src.rows dd hu hd (fun w' => ?_) (fun w' hw => ?_), g1, g2⟩
     ·rw [hll]; rfl
     ·have := g3 w' len hw hll.symm
      rwa [hll]
    ·cases h
   ·cases h
  ·unfold rowsOf at h
   split at h
   ·cases h
    simp only [VRel] at hx; subst hx
    exact ⟨by simp, [], Src.rows dd hu hd (fun w' => rfl) (fun w' _ => by simpa using run_firstCells_none w' _ 0 0 0), by simp [ListRel], by simp⟩
   ·rename_i own es' rows _
    split at h
    ·rename_i he
     cases h
     subst he
     simp only [VRel] at hx
     obtain ⟨b, o, cap, s, rfl, hl, hes, hr, _, hs0⟩ := hx
     rcases hs0 with rfl | hc0
     rotate_left
     ·have hnil : more = [] := List.eq_nil_of_length_eq_zero (by omega)
      subst hnil
      exact ⟨by simp, [], Src.rows dd hu hd (fun w' => rfl) (fun w' _ => run_firstCells_some w' _ 0 _ _ _ [] (by simp) (by simp)), by simp [ListRel], by simp⟩
     obtain ⟨old, g1, g2, g3⟩ := firstCells_vals (P := P) (cap := cap) (cells_of_rows hr).vals hr.len
     exact ⟨hr.len, old, Src.rows dd hu hd (fun w' => rfl) (fun w' hw => g3 w' _ hw rfl), g1, g2⟩
    ·cases h
   ·rename_i s _
    split at h
    ·rename_i he
     cases h
     simp only [VRel] at hx
     obtain ⟨b, rfl, rfl⟩ := hx
     have hsz : (b.data.toList.map byteRow).length = b.size := by simp
     refine ⟨fun r hr => ?_, b.data.toList.map fun u => Value.int .u8 u.toNat, Src.rows dd hu hd (fun w' => by rw [hsz]; rfl) (fun w' hw => ?_), by rw [bytes_rows]; exact bytes_rel C _ 0, ?_⟩
     ·obtain ⟨u, _, rfl⟩ := List.mem_map.1 hr
      simp [byteRow, he]
     ·rw [hsz]
      simp only [Builtin.firstCells, Sem.run_pure]
      congr 1
      apply Array.ext'
      simp
     ·intro y hy
      obtain ⟨u, _, rfl⟩ := List.mem_map.1 hy
      trivial
    ·cases h
   ·cases h
 ·cases h
end Go.Ab
namespace Go.Ab
variable {P : Program} {C : Ctx} {n : Nat}
theorem BoxRel.iff {q : List Nat} {b : Nat} : ∀ {cs : List AV} {j0 : Nat}, BoxRel C cs b q j0 ↔ ∀ (j : Nat) v, cs[j]? = some v →
  ∃ c, C.w.cell? ⟨b, j0 + j, none⟩ = some c ∧ OKB C b ∧ C.L b (j0 + j) = q ++ [0] ∧ flat c ∧ isPl v = false ∧ VRel C v (some (q ++ [j0 + j + 1])) c
 | [], j0 => by simp [BoxRel]
 | u :: cs, j0 => by
  simp only [BoxRel]
  rw [BoxRel.iff (cs := cs) (j0 := j0 + 1)]
  constructor
  ·rintro ⟨h1, h2⟩ j v hv
   cases j with
   | zero => simp at hv; subst hv; simpa using h1
   | succ j =>
    have := h2 j v (by simpa using hv)
    rwa [show j0 + 1 + j = j0 + (j + 1) by omega] at this
  ·intro h
   refine ⟨by simpa using h 0 u (by simp), fun j v hv => ?_⟩
   have := h (j + 1) v (by simpa using hv)
   rwa [show j0 + (j + 1) = j0 + 1 + j by omega] at this
theorem ListRel.mk {p : Option (List Nat)} : ∀ {vs : List AV} {i : Nat} {cs : List Value}, cs.length = vs.length → (∀ (j : Nat) v c, vs[j]? = some v → cs[j]? = some c → isPl v = false ∧ VRel C v (sub p (i + j)) c) → ListRel C vs p i cs
 | [], i, cs, hl, _ => by simp only [ListRel]; exact List.eq_nil_of_length_eq_zero (by simpa using hl)
 | v :: vs, i, [], hl, _ => by simp at hl
 | v :: vs, i, c :: cs, hl, h => by
  simp only [ListRel]
  have h0 := h 0 v c (by simp) (by simp)
  refine ⟨c, cs, rfl, h0.1, by simpa using h0.2, ListRel.mk (by simpa using hl) (fun j v' c' hv hc => ?_)⟩
  have := h (j + 1) v' c' (by simpa using hv) (by simpa using hc)
  rwa [show i + (j + 1) = i + 1 + j by omega] at this
def mvq (d t : Nat) (q : List Nat) (k : Nat) (agg : Bool) : List Nat → List Nat
 | a :: t' :: r => if a = d + 2 ∧ t' = t then
   (if agg then (match r with | j :: r' => q ++ (k + j) :: r' | [] => q) else q ++ k :: r)
  else a :: t' :: r
 | l => l
theorem mvq_heap (d t : Nat) (q : List Nat) (k : Nat) (agg : Bool) (r : List Nat) : mvq d t q k agg (1 :: r) = 1 :: r := by
 cases r with
 | nil => rfl
 | cons a r => simp only [mvq]; rw [if_neg (by omega)]
theorem mvq_deep (d t : Nat) (q : List Nat) (k : Nat) (agg : Bool) (l : List Nat) (h : ¬ Deep d l) : mvq d t q k agg l = l := by
 match l with
 | [] => rfl
 | [_] => rfl
 | a :: t' :: r =>
  simp only [mvq]
  rw [if_neg]
  rintro ⟨rfl, _⟩
  exact h ⟨d + 2, t' :: r, rfl, .inr (Nat.le_refl _)⟩
theorem mvq_other (d t : Nat) (q : List Nat) (k : Nat) (agg : Bool) (t' : Nat) (h : t' ≠ t) (r : List Nat) : mvq d t q k agg ((d + 2) :: t' :: r) = (d + 2) :: t' :: r := by
 simp only [mvq]; rw [if_neg (by simp [h])]
structure Good (g : List Nat → List Nat) (d : Nat) (cons : List Tmp) : Prop where
 f : g froz = froz
 z : g [] = []
 h : ∀ r, g (1 :: r) = 1 :: r
 deep : ∀ l, ¬ Deep d l → g l = l
 other : ∀ t, t ∉ cons → ∀ r, g ((d + 2) :: t :: r) = (d + 2) :: t :: r
theorem Good.id (d : Nat) (cons : List Tmp) : Good id d cons := ⟨rfl, rfl, fun _ => rfl, fun _ _ => rfl, fun _ _ _ => rfl⟩
theorem Good.mvq {d t : Nat} {q : List Nat} {k : Nat} {agg : Bool} {cons : List Tmp} (ht : t ∈ cons) : Good (mvq d t q k agg) d cons :=
 ⟨rfl, rfl, mvq_heap d t q k agg, mvq_deep d t q k agg, fun t' ht' r => mvq_other d t q k agg t' (fun e => ht' (e ▸ ht)) r⟩
theorem Good.env {g : List Nat → List Nat} {d : Nat} {cons : List Tmp} (hg : Good g d cons) {env : List AV} {tmps : Array Value} (hE : EnvRel C d env tmps) : EnvRel (C.map g) d (stripAt env cons) tmps := by
 refine EnvRel.map hg.f (hE.stripAt cons) (fun t u hu => ?_)
 by_cases ht : t ∈ cons
 ·exact .inr (stripAt_get cons env t u hu (.inl ht))
 ·exact .inl (fun r => hg.other t ht r)
theorem Good.heap {g : List Nat → List Nat} {d : Nat} {cons : List Tmp} (hg : Good g d cons) {S : Sto} (hS : HeapRel C S) : HeapRel (C.map g) S := hS.map hg.f hg.z hg.h
theorem Good.ext {g : List Nat → List Nat} {d : Nat} {cons : List Tmp} (hg : Good g d cons) : Ext (Deep d) C (C.map g) := Ext.map C hg.f hg.deep
theorem take_cells {d : Nat} {env : List AV} {tmps : Array Value} {ds : List Deferred} (hE : EnvRel C d env tmps) (x : Operand) (q : List Nat) (k : Nat) (hok : okTop (opt env x) = true) :
  ∃ g, Good g d (tmpsOf [x]) ∧ ListRel (C.map g) (opt env x).cells (some q) k (Act.eval { tmps, defers := ds } x).cells.toList ∧ ∀ y ∈ (Act.eval { tmps, defers := ds } x).cells.toList, flat y := by
 have plainCase : VRel C (opt env x) none (Act.eval { tmps, defers := ds } x) → ∃ g, Good g d (tmpsOf [x]) ∧ ListRel (C.map g) (opt env x).cells (some q) k (Act.eval { tmps, defers := ds } x).cells.toList ∧ ∀ y ∈ (Act.eval { tmps, defers := ds } x).cells.toList, flat y := by
  intro h
  obtain ⟨h1, h2⟩ := cells_plain h hok
  exact ⟨id, Good.id _ _, ListRel.any _ _ _ _ _ h1, h2⟩
 cases x with
 | const v => exact plainCase (opd_rel hE ds (.const v) none).1
 | global g => exact plainCase (opd_rel hE ds (.global g) none).1
 | func f => exact plainCase (opd_rel hE ds (.func f) none).1
 | tmp t =>
  obtain ⟨hx, hpl⟩ := opt_rel hE ds t
  generalize hv : opt env (.tmp t) = v at *
  generalize hc : Act.eval { tmps, defers := ds } (.tmp t) = c at *
  by_cases ha : ∃ cs, v = .agg cs
  ·obtain ⟨cs, rfl⟩ := ha
   simp only [VRel] at hx
   obtain ⟨cs', rfl, hfx, hr⟩ := hx
   refine ⟨mvq d t q k true, Good.mvq (by simp [tmpsOf]), ?_, by simpa [Value.cells] using hfx⟩
   have := hr.shift (g := mvq d t q k true) (q' := q) (off := k) rfl (fun j r => by simp [mvq])
   simpa [AV.cells, Value.cells] using this
  ·have ha' : ∀ cs, v ≠ .agg cs := fun cs e => ha ⟨cs, e⟩
   have hfx := flat_of hx hok ha'
   have hxc : v.cells = [v] := by cases v <;> first | rfl | exact absurd rfl (ha' _)
   refine ⟨mvq d t q k false, Good.mvq (by simp [tmpsOf]), ?_, by rw [flat_cells hfx]; simpa using hfx⟩
   rw [hxc, flat_cells hfx]
   simp only [ListRel]
   refine ⟨c, [], by simp, hpl, ?_, rfl⟩
   exact VRel.map rfl v _ _ c (.inr ⟨_, _, rfl, rfl, fun r => by simp [mvq]⟩) (isPl_lp hpl) (fun hb => absurd hb (by simp [isPl_bx hpl])) hx
theorem box_new {w' : World} {q : List Nat} {vs : List AV} {cs : List Value} (hw : C.w = w') {b : Nat} {e : TypeId} (hb : w'.heap[b]? = some (.cells cs.toArray e (0, 0))) (hL : ∀ j, C.L b j = q ++ [0])
  (hr : ListRel C vs (some q) 1 cs) (hf : ∀ y ∈ cs, flat y) : BoxRel C vs b q 0 := by
 subst hw
 rw [BoxRel.iff]
 intro j v hv
 obtain ⟨c, hc, hpl, hvc⟩ := hr.getElem? j v hv
 refine ⟨c, ?_, ?_, hL _, hf c (List.mem_of_getElem? hc), hpl, ?_⟩
 ·simp only [World.cell?, hb]
  simpa using hc
 ·exact ⟨_, _, _, hb, .inl rfl⟩
 ·simpa [sub, Nat.add_comm] using hvc
theorem ListRel.mono2 {X : List Nat → Prop} {C' : Ctx} (h : Ext X C C') : ∀ {vs : List AV} {p : Option (List Nat)} {i : Nat} {cs : List Value}, (∀ i, Off X (sub p i)) → ListRel C vs p i cs → ListRel C' vs p i cs
 | [], _, _, _, _, r => by simpa only [ListRel] using r
 | v :: vs, p, i, cs, hp, r => by
  simp only [ListRel] at r ⊢
  obtain ⟨c, cs', hc, hl, hv, hr⟩ := r
  exact ⟨c, cs', hc, hl, VRel.mono h v _ c (hp i) (isPl_lp hl) hv, hr.mono2 h hp⟩
theorem EnvRel.mono3 {X : List Nat → Prop} {C' : Ctx} {d : Nat} {env : List AV} {tmps : Array Value} (h : Ext X C C')
  (hX : ∀ (t : Nat) v, env[t]? = some v → v = .unk ∨ ((∀ r, ¬ X ((d + 2) :: t :: r)) ∧ ∀ s off, v = .lptr s off → C'.β d s = C.β d s)) (hE : EnvRel C d env tmps) : EnvRel C' d env tmps := by
 refine ⟨hE.1, fun t v hv => ?_⟩
 obtain ⟨c, hc, hr⟩ := hE.2 t v hv
 refine ⟨c, hc, ?_⟩
 rcases hX t v hv with rfl | ⟨hX, hβ⟩
 ·simp [VRel]
 by_cases hl : isLp v = true
 ·cases v <;> simp [isLp] at hl
  rename_i s off
  simp only [VRel] at hr ⊢
  obtain ⟨d', r, hp, rfl⟩ := hr
  obtain ⟨h1, h2⟩ := List.cons.inj (Option.some.inj hp)
  have hd : d' = d := by omega
  subst hd
  exact ⟨d', r, hp, by rw [hβ s off rfl]⟩
 ·exact VRel.mono h v _ c (fun q hq => by cases hq; exact ⟨by simp, by simp [froz], fun r => hX r⟩) (by simpa using hl) hr
def Ctx.own (C : Ctx) (d dst : Nat) (o : Go.Obj) : Ctx :=
 { C.push o (fun _ => [d + 2, dst, 0]) with β := fun d' s => if d' = d ∧ s = dst then C.w.heap.size else C.β d' s }
theorem Ext.own {d dst : Nat} {o : Go.Obj} (hfr : ∀ b x, C.w.heap.size ≤ b → C.L b x = []) : Ext (fun l => l = [d + 2, dst]) C (C.own d dst o) :=
 let h := Ext.push (C := C) (fun l => l = [d + 2, dst]) o (fun _ => [d + 2, dst, 0]) hfr
 ⟨h.n, h.ids, h.fr, h.keep, fun d' s hx => by
  show (if _ then _ else _) = _
  rw [if_neg]
  rintro ⟨rfl, rfl⟩
  exact hx rfl, h.shape, ⟨h.old.base, h.old.size, h.old.os, h.old.tape, h.old.output, h.old.fr⟩⟩
structure Out (C : Ctx) (C' : Ctx) (d : Nat) (env : List AV) (tmps : Array Value) (S : Sto) : Prop where
 env : EnvRel C' d env tmps
 heap : HeapRel C' S
 ext : Ext (Deep d) C C'
theorem newOwn {d dst : Nat} {env : List AV} {tmps : Array Value} {S : Sto} {cons : List Tmp} {g : List Nat → List Nat} (hg : Good g d cons) (hE : EnvRel C d env tmps) (hS : HeapRel C S) {cs : List AV} {cc : List Value} {e : TypeId}
  (hno : ∀ (t : Nat) s off, env[t]? = some (.lptr s off) → s ≠ dst) (hr : ListRel (C.map g) cs (some [d + 2, dst]) 1 cc) (hf : ∀ y ∈ cc, flat y) :
  ∃ C', C'.w = C.w.alloc (.cells cc.toArray e) ∧ Out C C' d ((stripAt env cons).set dst (.box cs)) (tmps.setIfInBounds dst (.pointer (some ⟨C.w.heap.size, 0, none⟩))) S := by
 let C1 := C.map g
 let C2 := C1.own d dst (.cells cc.toArray e)
 have hS1 : HeapRel C1 S := hg.heap hS
 have hx : Ext (fun l => l = [d + 2, dst]) C1 C2 := Ext.own hS1.fresh
 have hE1 : EnvRel C1 d ((stripAt env cons).set dst .unk) tmps := (hg.env hE).setA dst (by simp [VRel])
 have hlp : ∀ (ts : List Tmp) (env : List AV) (t : Nat) s off, (stripAt env ts)[t]? = some (.lptr s off) → env[t]? = some (.lptr s off) := by
  intro ts
  induction ts with
  | nil => intro env t s off h; exact h
  | cons a ts ih =>
   intro env t s off h
   have h' := ih _ t s off h
   rw [List.getElem?_set] at h'
   split at h'
   ·split at h'
    ·injection h' with h'
     have : isLp (env.getD a .undef).strip = false := by
      cases env.getD a .undef <;> simp [AV.strip, AV.strip1, AV.strip0, isLp]
     rw [h'] at this
     simp [isLp] at this
    ·cases h'
   ·exact h'
 have hE2 : EnvRel C2 d ((stripAt env cons).set dst .unk) tmps := by
  refine hE1.mono3 hx (fun t v hv => ?_)
  by_cases htd : t = dst
  ·subst htd
   left
   rw [List.getElem?_set] at hv
   simp only [if_true] at hv
   split at hv <;> cases hv
   rfl
  ·right
   refine ⟨fun r hr' => ?_, fun s off hvl => ?_⟩
   ·simp at hr'
    exact htd hr'.1
   ·subst hvl
    rw [List.getElem?_set_ne (Ne.symm htd)] at hv
    have := hno t s off (hlp cons env t s off hv)
    show (if _ then _ else _) = _
    rw [if_neg (fun h => this h.2)]
 have hb : BoxRel C2 cs C.w.heap.size [d + 2, dst] 0 := by
  refine box_new (w' := C.w.alloc (.cells cc.toArray e)) (e := e) rfl (alloc_new _ _) (fun j => ?_) (hr.mono2 hx (fun i q hq => ?_)) hf
  ·show (if C.w.heap.size = C.w.heap.size then _ else _) = _
   rw [if_pos rfl]; rfl
  ·cases hq
   exact ⟨by simp, by simp [froz], fun r h => by simp at h⟩
 refine ⟨C2, rfl, ?_, ?_, ?_⟩
 ·have hv : VRel C2 (.box cs) (some [d + 2, dst]) (.pointer (some ⟨C.w.heap.size, 0, none⟩)) := by
   simp only [VRel]
   have hβ : C2.β d dst = C.w.heap.size := by
    show (if _ then _ else _) = _
    rw [if_pos ⟨rfl, rfl⟩]; rfl
   exact ⟨d, dst, rfl, by rw [hβ], by rw [hβ]; exact hb⟩
  have := hE2.set dst hv
  rwa [List.set_set] at this
 ·exact hS1.mono hx rfl (fun r h => by simp at h) (push_fresh hS1.fresh)
 ·exact hg.ext.trans (hx.weaken (fun l hl => by subst hl; exact ⟨d + 2, [dst], rfl, .inr (Nat.le_refl _)⟩))
def Ctx.give (C : Ctx) (o : Go.Obj) (lab : Nat → List Nat) (base es cap : Nat) : Ctx :=
 { C.push o lab with
  φ := fun i => if i = C.n then C.w.heap.size else C.φ i
  ψ := fun i => if i = C.n then base else C.ψ i
  σ := fun i => if i = C.n then es else C.σ i
  κ := fun i => if i = C.n then cap else C.κ i
  n := C.n + 1 }
theorem Ext.give {o : Go.Obj} {lab : Nat → List Nat} {base es cap : Nat} (hfr : ∀ b x, C.w.heap.size ≤ b → C.L b x = []) : Ext (fun _ => False) C (C.give o lab base es cap) :=
 let h := Ext.push (C := C) (fun _ => False) o lab hfr
 ⟨Nat.le_succ _, fun id hid => by
  have : id ≠ C.n := by omega
  exact ⟨if_neg this, if_neg this, if_neg this, if_neg this⟩, h.fr, h.keep, h.β, h.shape, ⟨h.old.base, h.old.size, h.old.os, h.old.tape, h.old.output, h.old.fr⟩⟩
theorem HeapRel.give {S : Sto} (hS : HeapRel C S) {o : Go.Obj} {lab : Nat → List Nat} {base es cap : Nat} {a : Obj} (ha : ObjRel (C.give o lab base es cap) C.n a) : HeapRel (C.give o lab base es cap) (S.new a) := by
 have hx := Ext.give (C := C) (o := o) (lab := lab) (base := base) (es := es) (cap := cap) hS.fresh
 refine ⟨by show C.n + 1 = S.next + 1; rw [hS.n], ?_, ?_, push_fresh hS.fresh, hS.base.mono hx⟩
 ·simp only [Sto.new, List.map_cons, List.nodup_cons]
  refine ⟨fun hm => ?_, hS.nodup⟩
  obtain ⟨p, hp, he⟩ := List.mem_map.1 hm
  have := (hS.obj p.1 p.2 hp).1
  omega
 ·intro id o' hm
  simp only [Sto.new, List.mem_cons] at hm
  rcases hm with hm | hm
  ·cases hm
   exact ⟨Nat.lt_succ_self _, by rw [← hS.n]; exact ha⟩
  ·have h1 := hS.obj id o' hm
   exact ⟨Nat.lt_succ_of_lt h1.1, h1.2.mono hx (by rw [hS.n]; exact h1.1) (fun _ h => h)⟩
theorem newHeap {d dst : Nat} {env : List AV} {tmps : Array Value} {S : Sto} {cons : List Tmp} {g : List Nat → List Nat} (hg : Good g d cons) (hE : EnvRel C d env tmps) (hS : HeapRel C S) {cs : List AV} {cc : List Value} {e : TypeId}
  (hr : ListRel (C.map g) cs (some [1, S.next]) 1 cc) (hf : ∀ y ∈ cc, flat y) :
  ∃ C', C'.w = C.w.alloc (.cells cc.toArray e) ∧ Out C C' d ((stripAt env cons).set dst (.ptr S.next 0)) (tmps.setIfInBounds dst (.pointer (some ⟨C.w.heap.size, 0, none⟩))) (S.new (.cells cs)) := by
 let C1 := C.map g
 let C2 := C1.give (.cells cc.toArray e) (fun _ => [1, S.next, 0]) 0 0 0
 have hS1 : HeapRel C1 S := hg.heap hS
 have hx : Ext (fun _ => False) C1 C2 := Ext.give hS1.fresh
 have hn : C1.n = S.next := hS1.n
 have hφ : C2.φ S.next = C.w.heap.size := by
  show (if _ then _ else _) = _
  rw [if_pos hn.symm]; rfl
 have hb : BoxRel C2 cs (C2.φ S.next) [1, S.next] 0 := by
  rw [hφ]
  refine box_new (w' := C.w.alloc (.cells cc.toArray e)) (e := e) rfl (alloc_new _ _) (fun j => ?_) (ListRel.mono hx _ _ _ _ (fun q hq => by cases hq; exact ⟨by simp, by simp [froz], fun _ h => h⟩) hr) hf
  show (if C.w.heap.size = C.w.heap.size then _ else _) = _
  rw [if_pos rfl]; rfl
 refine ⟨C2, rfl, ?_, HeapRel.give hS1 (by rw [hn]; exact hb), hg.ext.trans (hx.weaken (fun _ h => h.elim))⟩
 refine EnvRel.set ((hg.env hE).mono hx (fun _ _ h => h)) dst ?_
 simp only [VRel]
 exact ⟨by rw [hφ], by show S.next < C1.n + 1; omega⟩
end Go.Ab
