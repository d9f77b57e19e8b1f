/- The abstract machine: values, heap, operations, code, interpreter. No conditions: definitions alone. -/
import Derived.Calls
set_option linter.unusedVariables false
namespace Go.AM

abbrev Pl:=Nat × Nat × Nat

inductive AV where
 | bool (b:Bool)
 | int (k:IntKind) (n:Int)
 | str (s:List UInt8)
 | ptr (a:Option Pl)
 /-- No place: nil;or,where q is 1,an empty slice that is not nil,of number 'po'. A place: 'q' is 0: the capacity is 'cap';else q is the elements' size,and 'cap' tells how many elements of the version's capacity lie ahead. 'po': the offset where the capacity is none. -/
 | slice (a:Option Pl) (po len cap q:Nat)
 | map (r:Option Nat)
 | func (fn:Fn) (first captured:List AV)
 | nilFunc
 | iface (t:TypeId) (v:AV)
 | nilIface
 | agg (cs:List AV)
 | tuple (vs:List AV)
 /-- A type's own place,as the model's reflection hands it on. -/
 | ty (b t:Nat)
 /-- What a range over a function hands on: its yield. -/
 | yld (f:Nat)
 | bot
 deriving Inhabited

mutual
def AV.beq:AV→AV→Bool
 | .bool a,.bool b=>a == b
 | .int k n,.int j m=>k == j&&n == m
 | .str s,.str t=>s == t
 | .ptr a,.ptr b=>a == b
 | .slice a p l c e,.slice b q m d f=>a == b&&p == q&&l == m&&c == d&&e == f
 | .map a,.map b=>a == b
 | .func f x y,.func g u v=>f == g&&AV.beqs x u&&AV.beqs y v
 | .nilFunc,.nilFunc=>true
 | .iface t v,.iface u w=>t == u&&AV.beq v w
 | .nilIface,.nilIface=>true
 | .agg a,.agg b=>AV.beqs a b
 | .tuple a,.tuple b=>AV.beqs a b
 | .ty a b,.ty c d=>a == c&&b == d
 | .yld a,.yld b=>a == b
 | _,_=>false
def AV.beqs:List AV→List AV→Bool
 | [],[]=>true
 | a::l,b::m=>AV.beq a b&&AV.beqs l m
 | _,_=>false
end

inductive T (α:Type) where
 | nil
 | node (l:T α) (v:Option α) (r:T α)

def T.get {α:Type}:T α→Nat→Option α
 | .nil,_=>none
 | .node l v r,n=>bif Nat.beq n 0 then v else bif Nat.beq (n % 2) 1 then l.get (n / 2) else r.get (n / 2 - 1)

def T.setF {α:Type} (a:α):Nat→T α→Nat→T α
 | 0,t,_=>t
 | k+1,.nil,n=>bif Nat.beq n 0 then .node .nil (some a) .nil else bif Nat.beq (n % 2) 1 then .node (T.setF a k .nil (n / 2)) none .nil else .node .nil none (T.setF a k .nil (n / 2 - 1))
 | k+1,.node l v r,n=>bif Nat.beq n 0 then .node l (some a) r else bif Nat.beq (n % 2) 1 then .node (T.setF a k l (n / 2)) v r else .node l v (T.setF a k r (n / 2 - 1))

def T.set {α:Type} (t:T α) (n:Nat) (a:α):T α:=T.setF a (n+1) t n

structure Ver where
 v:Nat
 lo:Nat
 hi:Nat
 sz:Nat

inductive EqK where
 | ptr
 | nilSlice
 | nilMap
 | nilFunc
 | iface (empty:Bool)
 /-- Two interface values: the dynamic types that are pointers. -/
 | dyn (ptrs:List TypeId)
 deriving Inhabited

inductive KK where
 | int (k:IntKind)
 | str
 | bool
 deriving Inhabited
def keyOk:KK→AV→Bool
 | .int k,.int j _=>k == j
 | .str,.str _=>true
 | .bool,.bool _=>true
 | _,_=>false

inductive AOp where
 | mv (x:Operand)
 | pick (c a b:Operand)
 | bin (op:BinOp) (x y:Operand)
 | un (op:UnOp) (x:Operand)
 | eqb (neg:Bool) (x y:Operand)
 | conv (k:IntKind) (x:Operand)
 | same (x:Operand)
 | extract (t:Operand) (i:Nat)
 | mkIface (t:TypeId) (x:Operand)
 | mkFunc (fn:Fn) (first captured:List Operand)
 | nilCheck (x:Operand)
 | fieldAddr (off:Nat) (x:Operand)
 | field (off size:Nat) (agg:Bool) (x:Operand)
 | atSlice (size:Nat) (x i:Operand)
 | atArray (n size:Nat) (x i:Operand)
 | byteAt (x i:Operand)
 | elemAt (n size:Nat) (agg:Bool) (x i:Operand)
 | cutStr (x:Operand) (lo hi:Option Operand)
 | cutSlice (size:Nat) (x:Operand) (lo hi mx:Option Operand)
 | cutArray (n size:Nat) (x:Operand) (lo hi mx:Option Operand)
 | build (zero:List AV) (parts:List (Nat × Nat × Operand))
 | isType (t:TypeId) (zero:AV) (ok:Bool) (x:Operand)
 | isIface (impl other:List TypeId) (ok:Bool) (x:Operand)
 | lenStr (x:Operand)
 | len (x:Operand)
 | lenArr (n:Nat) (x:Operand)
 | minmax (isMax:Bool) (xs:List Operand)
 | eqAgg (neg:Bool) (ks:List KK) (x y:Operand)
 | cap (x:Operand)
 | box (x:Operand)
 | alloc (zero:List AV)
 | buildSlice (n size:Nat) (cells:List AV) (parts:List (Nat × Nat × Operand))
 | makeSlice (size bytes:Nat) (zero:List AV) (len cap:Operand)
 | bytesOf (x:Operand)
 | appendZ (size bytes:Nat) (zero:List AV) (s n:Operand)
 | mkMap
 | eq (k:EqK) (neg:Bool) (x y:Operand)
 | load (n:Nat) (agg:Bool) (a:Operand)
 | textOf (x:Operand)
 | lookup (kd:KK) (zero:AV) (ok:Bool) (m k:Operand)
 | lenMap (m:Operand)
 | entry (it:Operand)
 | store (n:Nat) (a x:Operand)
 | append (str:Bool) (size bytes:Nat) (s x:Operand)
 | copy (size:Nat) (d s:Operand)
 | mapPut (kd:KK) (m k x:Operand)
 | mapDel (kd:KK) (m k:Operand)
 | range (isMap:Bool) (x:Operand)
 | next (isStr:Bool) (it:Operand)
 | clearS (zero:List AV) (x:Operand)
 | clearM (x:Operand)
 | mark (x:Operand)
 | qcall (f:FuncId) (args:List Operand)
 | call (f:FuncId) (args:List Operand)
 | callv (f:Operand) (args:List Operand)
 | invoke (recv:Operand) (tab:List (TypeId × FuncId × Option (Nat × Nat × Bool))) (args:List Operand)
 deriving Inhabited

structure AOper where
 dst:Option Nat
 op:AOp
 guard:Option (Nat × Bool)
 deriving Inhabited

inductive ACode where
 | skip
 | region (ops:List AOper)
 /-- A region that draws its order: the operations in the order of the text;for each from which state to which it may come up. -/
 | draws (ops:List (AOper × Nat × Nat))
 | seq (a b:ACode)
 | cond (c:Operand) (x y:ACode)
 | block (id:Nat) (c:ACode)
 | loop (c:ACode)
 | exit (id:Nat)
 | ret
 /-- A range over a function: the function,the parameters,the function's slots,what a round does first,the round. -/
 | rangeF (f:Operand) (ps:List Nat) (n:Nat) (a b:ACode)
 deriving Inhabited

abbrev Env:=T AV

inductive Ex where
 | normal
 | exit (id:Nat)
 | ret

structure LoopA where
 E:Env
 ps:List Nat
 n:Nat
 a:ACode
 b:ACode
 st:Nat
 pend:Option Ex

inductive Itr where
 | str (s:List UInt8) (pos:Nat)
 | map (g:Option Nat) (since:Nat) (seen:List Nat) (last:Nat)
 /-- A range over a function: its record. -/
 | loop (r:LoopA)
 /-- A range over a function that is over. -/
 | gone

inductive Blk where
 | cells (cs:List AV) (vers:List Ver) (nv:Nat) (ro:Bool)
 | map (es:List (AV × AV × Nat)) (clock:Nat)
 | iter (o:Itr)

structure St where
 heap:T Blk
 next:Nat

def St.get (A:St) (f:Nat):Option Blk:=A.heap.get f
def St.put (A:St) (f:Nat) (b:Blk):St:={ A with heap:=A.heap.set f b }
def St.push (A:St) (b:Blk):St:={ heap:=A.heap.set A.next b,next:=A.next+1 }

def findVer (v:Nat):List Ver→Option Ver
 | []=>none
 | x::l=>bif Nat.beq x.v v then some x else findVer v l

def St.look (A:St) (p:Pl):Option (List AV × Ver × Nat × Bool):=
 match A.get p.1 with
 | some (.cells cs vers nv ro)=>(findVer p.2.1 vers).map fun x=>(cs,x,nv,ro)
 | _=>none

def St.cells (A:St) (p:Pl) (n:Nat):Option (List AV):=
 match A.look p with
 | some (cs,x,_,_)=>if x.lo≤p.2.2∧p.2.2+n≤x.hi∧x.hi≤cs.length then some ((cs.drop p.2.2).take n) else none
 | none=>none

def splice (cs:List AV) (o:Nat) (l:List AV):List AV:=cs.take o++(l++cs.drop (o+l.length))

def AV.flat:AV→Bool
 | .agg _|.tuple _|.bot=>false
 | _=>true

def St.write (A:St) (p:Pl) (l:List AV):Option St:=
 match A.look p with
 | some (cs,x,nv,false)=>if x.lo≤p.2.2∧p.2.2+l.length≤x.hi∧x.hi≤cs.length∧l.all AV.flat=true then some (A.put p.1 (.cells (splice cs p.2.2 l) [x] nv false)) else none
 | _=>none

def St.make (A:St) (cs:List AV) (sz:Nat):Nat × St:=(A.next,A.push (.cells cs [⟨0,0,cs.length,sz⟩] 1 false))
def St.makeV (A:St) (cs:List AV) (sz u:Nat):Nat × St:=(A.next,A.push (.cells cs [⟨u,0,cs.length,sz⟩] (u+1) false))

def AV.cells:AV→List AV
 | .agg cs=>cs
 | v=>[v]

def constFlat:Value→Option AV
 | .bool b=>some (.bool b)
 | .int k n=>some (.int k n)
 | .string s=>some (.str s.data.toList)
 | .pointer none=>some (.ptr none)
 | .slice none 0 0=>some (.slice none 0 0 0 0)
 | .map none=>some (.map none)
 | .nilFunc=>some .nilFunc
 | .nilIface=>some .nilIface
 | _=>none
def constAV:Value→AV
 | .agg cs=>match cs.toList.mapM constFlat with|some l=>.agg l|none=>.bot
 | v=>(constFlat v).getD .bot

def Env.at (E:Env) (t:Nat):AV:=(T.get E t).getD .bot
def ev (E:Env):Operand→AV
 | .tmp t=>bif Nat.blt t 1000000 then Env.at E t else .bot
 | .const v=>constAV v
 | .global g=>Env.at E (1000000+g)
 | .func f=>.func (.func f) [] []
def evs (E:Env):List Operand→List AV
 | []=>[]
 | x::l=>ev E x::evs E l
def evo (E:Env):Option Operand→Option AV
 | none=>none
 | some x=>some (ev E x)
def Env.put (E:Env) (d:Option Nat) (v:AV):Env:=match d with|some i=>T.set E i v|none=>E


def bytesLess:List UInt8→List UInt8→Bool
 | _,[]=>false
 | [],_::_=>true
 | a::x,b::y=>a<b||(a == b&&bytesLess x y)

def binInt (op:BinOp) (k:IntKind) (x y:Int):Option AV:=
 match op with
 | .add=>some (.int k (k.wrap (x+y)))
 | .sub=>some (.int k (k.wrap (x - y)))
 | .mul=>some (.int k (k.wrap (x*y)))
 | .quo=>if y=0 then none else some (.int k (k.wrap (x.tdiv y)))
 | .rem=>if y=0 then none else some (.int k (x.tmod y))
 | .and=>some (.int k (k.wrap (BitVec.ofInt k.bits x &&& BitVec.ofInt k.bits y).toNat))
 | .or=>some (.int k (k.wrap (BitVec.ofInt k.bits x ||| BitVec.ofInt k.bits y).toNat))
 | .xor=>some (.int k (k.wrap (BitVec.ofInt k.bits x ^^^ BitVec.ofInt k.bits y).toNat))
 | .andNot=>some (.int k (k.wrap (BitVec.ofInt k.bits x &&& ~~~ BitVec.ofInt k.bits y).toNat))
 | .eql=>some (.bool (x == y))
 | .neq=>some (.bool (x != y))
 | .lss=>some (.bool (decide (x<y)))
 | .leq=>some (.bool (decide (x≤y)))
 | .gtr=>some (.bool (decide (x>y)))
 | .geq=>some (.bool (decide (x≥y)))
 | _=>none
def shiftInt (op:BinOp) (k:IntKind) (x y:Int):Option AV:=
 if y<0 then none else
 match op with
 | .shl=>some (.int k (k.wrap (x*2^min y.toNat k.bits)))
 | .shr=>some (.int k (x.fdiv (2^min y.toNat k.bits)))
 | _=>none
def binStr (op:BinOp) (x y:List UInt8):Option AV:=
 match op with
 | .add=>if x.length+y.length≤9223372036854775807 then some (.str (x++y)) else none
 | .eql=>some (.bool (x == y))
 | .neq=>some (.bool (!(x == y)))
 | .lss=>some (.bool (bytesLess x y))
 | .leq=>some (.bool (bytesLess x y||x == y))
 | .gtr=>some (.bool (!(bytesLess x y||x == y)))
 | .geq=>some (.bool (!(bytesLess x y)))
 | _=>none
def isShift:BinOp→Bool
 | .shl|.shr=>true
 | _=>false
def binOf (op:BinOp):AV→AV→Option AV
 | .int k x,.int j y=>bif isShift op then shiftInt op k x y else if k=j then binInt op k x y else none
 | .str x,.str y=>binStr op x y
 | _,_=>none
def unOf:UnOp→AV→Option AV
 | .neg,.int k n=>some (.int k (k.wrap (0 - n)))
 | .xor,.int k n=>some (.int k (k.wrap (BitVec.ofInt k.bits (if k.signed then -1 else k.max) ^^^ BitVec.ofInt k.bits n).toNat))
 | .not,.bool b=>some (.bool (!b))
 | _,_=>none
def AV.addr (p:Pl) (n:Nat):AV:=.ptr (some (p.1,p.2.1,p.2.2+n))
def index? (n:Nat):AV→Option Nat
 | .int _ i=>if 0≤i∧i<n then some i.toNat else none
 | _=>none
def bound? (n:Nat):AV→Option Nat
 | .int _ i=>if 0≤i∧i≤n then some i.toNat else none
 | _=>none
def partOf (agg:Bool) (cs:List AV) (off size:Nat):Option AV:=
 bif agg then (if off+size≤cs.length then some (.agg ((cs.drop off).take size)) else none) else cs[off]?
def boundLo (lo:Option AV) (h:Nat):Option Nat:=
 match lo with
 | none=>some 0
 | some v=>bound? h v
def boundHi (hi:Option AV) (m:Nat) (len:Nat):Option Nat:=
 match hi with
 | none=>some len
 | some v=>bound? m v
def boundMx (mx:Option AV) (c:Nat):Option Nat:=
 match mx with
 | none=>some c
 | some v=>bound? c v

def cutSliceOf (size:Nat) (x:AV) (lo hi mx:Option AV):Option AV:=
 match x with
 | .slice none po len _ q=>
  match mx with
  | some _=>none
  | none=>match boundHi hi len len with
   | none=>none
   | some h=>match boundLo lo h with
    | none=>none
    | some l=>some (.slice none po (h - l) 0 q)
 | .slice (some (f,v,o)) _ len cap 0=>
  match boundMx mx cap with
  | none=>none
  | some m=>match boundHi hi m len with
   | none=>none
   | some h=>match boundLo lo h with
    | none=>none
    | some l=>if (mx.isSome&&hi.isNone)=true∨m<h then none else some (.slice (some (f,v,if m=l then o else o+l*size)) 0 (h - l) (m - l) 0)
 | .slice (some (f,v,o)) po len skip (q+1)=>
  match mx with
  | some _=>
   match boundMx mx len with
   | none=>none
   | some m=>match boundHi hi m len with
    | none=>none
    | some h=>match boundLo lo h with
     | none=>none
     | some l=>if hi.isNone=true∨len=0∨m<h then none else some (.slice (some (f,v,if m=l then o else o+l*size)) 0 (h - l) (m - l) 0)
  | none=>match boundHi hi len len with
   | none=>none
   | some h=>match boundLo lo h with
    | none=>none
    | some l=>if q+1=size then some (.slice (some (f,v,o+l*size)) (if l=0 then po else o) (h - l) (skip+l) (q+1)) else none
 | _=>none

def AV.isBot:AV→Bool
 | .bot=>true
 | _=>false
def fillA (cells:List AV):List (Nat × Nat × AV)→Option (List AV)
 | []=>some cells
 | (off,size,v)::rest=>if v.isBot=false∧v.cells.length=size∧off+size≤cells.length then fillA (splice cells off v.cells) rest else none
def evParts (E:Env):List (Nat × Nat × Operand)→List (Nat × Nat × AV)
 | []=>[]
 | (o,s,x)::l=>(o,s,ev E x)::evParts E l
def keySame:AV→AV→Option Bool
 | .int k a,.int j b=>if k=j then some (a == b) else none
 | .str a,.str b=>some (a == b)
 | .bool a,.bool b=>some (a == b)
 | _,_=>none
def flatEqs:List KK→List AV→List AV→Option Bool
 | [],[],[]=>some true
 | kd::ks,a::l,b::r=>bif keyOk kd a then (match keySame a b,flatEqs ks l r with|some x,some y=>some (x&&y)|_,_=>none) else none
 | _,_,_=>none
def eqAggOf (neg:Bool) (ks:List KK):AV→AV→Option AV
 | .agg a,.agg b=>match flatEqs ks a b with|some r=>some (.bool (bif neg then !r else r))|none=>none
 | _,_=>none
def capOf:AV→Option AV
 | .slice none _ _ cap _=>if cap=0 then some (.int .i64 0) else none
 | .slice (some _) _ _ cap 0=>some (.int .i64 cap)
 | _=>none
def max2:AV→AV→Option AV
 | .int k x,.int j y=>if k=j then some (.int k (if y>x then y else x)) else none
 | _,_=>none
def min2:AV→AV→Option AV
 | .int k x,.int j y=>if k=j then some (.int k (if y<x then y else x)) else none
 | _,_=>none
def foldA (g:AV→AV→Option AV):AV→List AV→Option AV
 | v,[]=>some v
 | v,x::l=>match g v x with|some y=>foldA g y l|none=>none
def allKnown:List AV→Bool
 | []=>true
 | .bot::_=>false
 | _::l=>allKnown l

def pureOf (E:Env):AOp→Option AV
 | .mv x=>some (ev E x)
 | .pick c a b=>match ev E c with|.bool t=>some (ev E (bif t then a else b))|_=>none
 | .bin op x y=>binOf op (ev E x) (ev E y)
 | .un op x=>unOf op (ev E x)
 | .eqb neg x y=>match ev E x,ev E y with|.bool b,.bool c=>some (.bool (bif neg then !(b == c) else b == c))|_,_=>none
 | .conv k x=>match ev E x with|.int _ n=>some (.int k (k.wrap n))|_=>none
 | .same x=>match ev E x with|.str s=>some (.str s)|_=>none
 | .extract t i=>match ev E t with|.tuple vs=>vs[i]?|_=>none
 | .mkIface t x=>match ev E x with|.bot=>none|v=>some (.iface t v)
 | .mkFunc fn first captured=>bif allKnown (evs E first)&&allKnown (evs E captured) then some (.func fn (evs E first) (evs E captured)) else none
 | .nilCheck x=>match ev E x with|.ptr (some p)=>some (.ptr (some p))|_=>none
 | .fieldAddr off x=>match ev E x with|.ptr (some p)=>some (AV.addr p off)|_=>none
 | .field off size agg x=>match ev E x with|.agg cs=>partOf agg cs off size|_=>none
 | .atSlice size x i=>match ev E x with
  | .slice (some p) _ len _ _=>match index? len (ev E i) with|some j=>some (AV.addr p (j*size))|none=>none
  | _=>none
 | .atArray n size x i=>match ev E x with
  | .ptr (some p)=>match index? n (ev E i) with|some j=>some (AV.addr p (j*size))|none=>none
  | _=>none
 | .byteAt x i=>match ev E x with
  | .str s=>match index? s.length (ev E i) with|some j=>(match s[j]? with|some b=>some (.int .u8 b.toNat)|none=>none)|none=>none
  | _=>none
 | .elemAt n size agg x i=>match ev E x with
  | .agg cs=>match index? n (ev E i) with|some j=>partOf agg cs (j*size) size|none=>none
  | _=>none
 | .cutStr x lo hi=>match ev E x with
  | .str s=>match boundHi (evo E hi) s.length s.length with
   | some h=>(match boundLo (evo E lo) h with|some l=>some (.str ((s.take h).drop l))|none=>none)
   | none=>none
  | _=>none
 | .cutSlice size x lo hi mx=>cutSliceOf size (ev E x) (evo E lo) (evo E hi) (evo E mx)
 | .cutArray n size x lo hi mx=>match ev E x with
  | .ptr (some (f,v,o))=>cutSliceOf size (.slice (some (f,v,o)) 0 n n 0) (evo E lo) (evo E hi) (evo E mx)
  | _=>none
 | .build zero parts=>match fillA zero (evParts E parts) with|some l=>some (.agg l)|none=>none
 | .isType t zero ok x=>match ev E x with
  | .nilIface=>bif ok then some (.tuple [zero,.bool false]) else none
  | .iface d v=>if d=t then some (bif ok then .tuple [v,.bool true] else v) else bif ok then some (.tuple [zero,.bool false]) else none
  | _=>none
 | .isIface impl other ok x=>match ev E x with
  | .nilIface=>bif ok then some (.tuple [.nilIface,.bool false]) else none
  | .iface d v=>bif impl.contains d then some (bif ok then .tuple [.iface d v,.bool true] else .iface d v)
   else bif other.contains d&&ok then some (.tuple [.nilIface,.bool false]) else none
  | _=>none
 | .lenStr x=>match ev E x with
  | .str s=>some (.int .i64 s.length)
  | _=>none
 | .len x=>match ev E x with
  | .slice _ _ n _ _=>some (.int .i64 n)
  | _=>none
 | .lenArr n _=>some (.int .i64 n)
 | .minmax m xs=>match evs E xs with
  | .int k n::l=>foldA (bif m then max2 else min2) (.int k n) l
  | _=>none
 | .eqAgg neg ks x y=>eqAggOf neg ks (ev E x) (ev E y)
 | .cap x=>capOf (ev E x)
 | _=>none


inductive Made where
 | ptr
 | slice (len cap q:Nat)
 | text (len:Nat)

def newOf (E:Env):AOp→Option (List AV × Nat × Made)
 | .box x=>match ev E x with|.bot=>none|.tuple _=>none|v=>some (v.cells,1,.ptr)
 | .alloc zero=>some (zero,1,.ptr)
 | .buildSlice n size cells parts=>match fillA cells (evParts E parts) with|some l=>some (l,size,.slice n n 0)|none=>none
 | .makeSlice size bytes zero len cap=>match ev E len,ev E cap with
  | .int _ l,.int _ c=>if 0≤l∧l≤c∧c*bytes≤140737488355328∧c≤4611686018427387904∧zero.length=size then some ((List.replicate c.toNat zero).flatten,size,.slice l.toNat c.toNat 0) else none
  | _,_=>none
 | .appendZ size bytes zero s n=>match ev E s,ev E n with
  | .slice none _ _ 0 0,.int _ c=>if 0<c∧c*bytes≤70368744177664∧c≤70368744177664∧zero.length=size then some ((List.replicate c.toNat zero).flatten,size,.slice c.toNat 0 size) else none
  | _,_=>none
 | .bytesOf x=>match ev E x with|.str s=>if s.length≤140737488355328 then some (s.map fun b=>.int .u8 b.toNat,1,.text s.length) else none|_=>none
 | _=>none
def Made.value (f:Nat):Made→AV
 | .ptr=>.ptr (some (f,0,0))
 | .slice len cap q=>.slice (some (f,0,0)) 0 len cap q
 | .text len=>.slice (some (f,1,0)) 0 len 0 1
def Made.ver:Made→Nat
 | .text _=>1
 | _=>0


def textGo:List AV→Option (List UInt8)
 | []=>some []
 | .int .u8 n::l=>match textGo l with|some s=>some (UInt8.ofNat n.toNat::s)|none=>none
 | _=>none

def mapFind (k:AV):List (AV × AV × Nat)→Nat→Option (Option (Nat × AV × Nat))
 | [],_=>some none
 | (x,v,b)::l,i=>match keySame k x with
  | some true=>some (some (i,v,b))
  | some false=>mapFind k l (i+1)
  | none=>none
def setVal (i:Nat) (v:AV) (es:List (AV × AV × Nat)):List (AV × AV × Nat):=es.modify i fun e=>(e.1,v,e.2.2)
def mapSet (k v:AV) (es:List (AV × AV × Nat)) (clock:Nat):Option Blk:=
 match mapFind k es 0 with
 | some (some (i,_,_))=>some (.map (setVal i v es) clock)
 | some none=>some (.map (es++[(k,v,clock)]) (clock+1))
 | none=>none
def mapCut (k:AV) (es:List (AV × AV × Nat)) (clock:Nat):Option Blk:=
 match mapFind k es 0 with
 | some (some (i,_,_))=>some (.map (es.eraseIdx i) clock)
 | some none=>some (.map es clock)
 | none=>none
def stampAt (b:Nat):List (AV × AV × Nat)→Option (AV × AV)
 | []=>none
 | (k,v,c)::l=>bif Nat.beq c b then some (k,v) else stampAt b l
def oldOf (since:Nat) (seen:List Nat) (es:List (AV × AV × Nat)):List (AV × AV × Nat):=(es.filter fun e=>!seen.contains e.2.2).filter fun e=>decide (e.2.2<since)
def newOf' (since:Nat) (seen:List Nat) (es:List (AV × AV × Nat)):List (AV × AV × Nat):=(es.filter fun e=>!seen.contains e.2.2).filter fun e=>decide (e.2.2≥since)

def samePlace (p q:Pl):Option Bool:=if p.1=q.1∧p.2.1=q.2.1 then some (p.2.2 == q.2.2) else none

def eqOf:EqK→AV→AV→Option Bool
 | .ptr,.ptr none,.ptr b=>some b.isNone
 | .ptr,.ptr _,.ptr none=>some false
 | .ptr,.ptr (some p),.ptr (some q)=>samePlace p q
 | .nilSlice,.slice a _ _ _ q,.slice b _ _ _ r=>if a.isNone&&q == 0 then some (b.isNone&&r == 0) else if b.isNone&&r == 0 then some false else none
 | .nilMap,.map none,.map b=>some b.isNone
 | .nilMap,.map _,.map none=>some false
 | .nilFunc,.nilFunc,.nilFunc=>some true
 | .nilFunc,.nilFunc,.func ..=>some false
 | .nilFunc,.func ..,.nilFunc=>some false
 | .iface _,.nilIface,.iface ..=>some false
 | .iface _,.iface ..,.nilIface=>some false
 | .iface e,.nilIface,.nilIface=>bif e then some true else none
 | .iface _,.iface t _,.iface u _=>if t≠u then some false else none
 | _,_,_=>none

def rwB (A:St) (f:Nat):Bool:=match A.get f with
 | some (.cells _ _ _ false)=>true
 | _=>false
def knownAt (A:St) (p:Pl):Bool:=match A.cells p 1 with
 | some _=>true
 | none=>false
def farPlace (A:St) (p q:Pl):Option Bool:=bif Nat.beq p.1 q.1 then samePlace p q else bif (rwB A p.1&&rwB A q.1)&&((Nat.beq p.2.1 0&&Nat.beq q.2.1 0)&&(knownAt A p&&knownAt A q)) then some false else none
def eqFar (A:St):EqK→AV→AV→Option Bool
 | .ptr,.ptr (some p),.ptr (some q)=>farPlace A p q
 | .dyn _,.nilIface,.iface _ _=>some false
 | .dyn _,.iface _ _,.nilIface=>some false
 | .dyn ps,.iface t v,.iface u w=>bif Nat.beq t u then (match v,w with
  | .ptr (some p),.ptr (some q)=>bif ps.contains t then farPlace A p q else none
  | _,_=>none) else some false
 | _,_,_=>none
def readOf (E:Env) (A:St):AOp→Option AV
 | .eq k neg x y=>match (match eqOf k (ev E x) (ev E y) with|some b=>some b|none=>eqFar A k (ev E x) (ev E y)) with|some b=>some (.bool (bif neg then !b else b))|none=>none
 | .load n agg a=>match ev E a with
  | .ptr (some p)=>match A.cells p n with
   | some l=>bif agg then some (.agg l) else (match l with|[v]=>some v|_=>none)
   | none=>none
  | _=>none
 | .textOf x=>match ev E x with
  | .slice none _ _ _ _=>some (.str [])
  | .slice (some p) _ len _ _=>match A.cells p len with
   | some l=>(match textGo l with|some s=>some (.str s)|none=>none)
   | none=>none
  | _=>none
 | .lookup kd zero ok m k=>bif keyOk kd (ev E k) then (match ev E m with
  | .map none=>some (bif ok then .tuple [zero,.bool false] else zero)
  | .map (some f)=>match A.get f with
   | some (.map es _)=>match mapFind (ev E k) es 0 with
    | some (some (_,v,_))=>some (bif ok then .tuple [v,.bool true] else v)
    | some none=>some (bif ok then .tuple [zero,.bool false] else zero)
    | none=>none
   | _=>none
  | _=>none) else none
 | .entry it=>match ev E it with
  | .ptr (some (f,0,0))=>match A.get f with
   | some (.iter (.map (some g) _ seen last))=>match A.get g with
    | some (.map es clock)=>bif Nat.beq clock last then (match seen.getLast? with
     | some b=>(match stampAt b es with|some (k,v)=>some (.tuple [k,v])|none=>none)
     | none=>none) else none
    | _=>none
   | _=>none
  | _=>none
 | .lenMap m=>match ev E m with
  | .map none=>some (.int .i64 0)
  | .map (some f)=>match A.get f with|some (.map es _)=>some (.int .i64 es.length)|_=>none
  | _=>none
 | _=>none


def firstA (A:St) (size n:Nat):AV→Option (List AV)
 | .slice none _ _ _ _=>some []
 | .slice (some p) _ _ _ _=>A.cells p (n*size)
 | .str s=>some ((s.take n).map fun b=>.int .u8 b.toNat)
 | _=>none
def lenA:AV→Option Nat
 | .slice _ _ n _ _=>some n
 | .str s=>some s.length
 | _=>none
def appendOf (A:St) (size bytes:Nat) (s x:AV):Option (AV × St):=
 match lenA x with
 | none=>none
 | some n=>match firstA A size n x with
  | none=>none
  | some new=>if new.all AV.flat=true∧new.length=n*size∧size≠0 then
   match s with
   | .slice none po len cap q=>if len≠0 then none else if n=0 then some (.slice none po len cap q,A) else
    if n*bytes≤70368744177664∧n≤70368744177664 then (let (f,B):=A.make new size;some (.slice (some (f,0,0)) 0 n 0 size,B)) else none
   | .slice (some (f,v,o)) po len cap 0=>
    if len+n≤cap then
     (if n=0 then some (.slice (some (f,v,o)) po len cap 0,A) else
     match A.write (f,v,o+len*size) new with
     | some B=>some (.slice (some (f,v,o)) po (len+n) cap 0,B)
     | none=>none)
    else if (len+n)*bytes≤70368744177664∧len+n≤70368744177664 then match A.cells (f,v,o) (len*size) with
     | some old=>let (g,B):=A.make (old++new) size;some (.slice (some (g,0,0)) 0 (len+n) 0 size,B)
     | none=>none
    else none
   | .slice (some (f,v,o)) po len skip (q+1)=>
    if n=0 then some (.slice (some (f,v,o)) po len skip (q+1),A) else
    if (len+n)*bytes≤70368744177664∧len+n≤70368744177664∧q+1=size then
     match A.get f with
     | some (.cells cs vers nv false)=>
      match findVer v vers with
      | some y=>
       if y.lo≤o∧o+len*size≤y.hi∧y.hi≤cs.length then
       (if o+(len+n)*size≤y.hi then
        match A.write (f,v,o+len*size) new with
        | some B=>some (.slice (some (f,v,o)) po (len+n) skip (q+1),B)
        | none=>none
       else
        some (.slice (some (f,nv,o)) o (len+n) 0 (q+1),
         A.put f (.cells (cs.take (o+len*size)++new) (⟨nv,o,o+(len+n)*size,size⟩::vers.filter fun z=>decide (z.hi≤o+len*size)) (nv+1) false)))
       else none
      | none=>none
     | _=>none
    else none
   | _=>none
  else none

def okSrc:Bool→AV→Bool
 | true,.str _=>true
 | false,.slice ..=>true
 | _,_=>false
def effOf (E:Env) (A:St):AOp→Option (AV × St)
 | .mkMap=>some (.map (some A.next),A.push (.map [] 0))
 | .store n a x=>match ev E a with
  | .ptr (some p)=>match ev E x with
   | .bot=>none
   | v=>if v.cells.length=n then match A.write p v.cells with|some B=>some (.bot,B)|none=>none else none
  | _=>none
 | .append b size bytes s x=>bif okSrc b (ev E x) then appendOf A size bytes (ev E s) (ev E x) else none
 | .copy size d s=>match ev E d,lenA (ev E s) with
  | .slice base _ len _ _,some m=>
   match firstA A size (min m len) (ev E s) with
   | none=>none
   | some l=>match base with
    | none=>some (.int .i64 0,A)
    | some p=>if l=[] then some (.int .i64 ((min m len:Nat):Int),A) else match A.write p l with|some B=>some (.int .i64 ((min m len:Nat):Int),B)|none=>none
  | _,_=>none
 | .mapPut kd m k x=>bif keyOk kd (ev E k) then (match ev E m with
  | .map (some f)=>match A.get f with
   | some (.map es clock)=>match ev E x with
    | .bot=>none
    | v=>match mapSet (ev E k) v es clock with|some b=>some (.bot,A.put f b)|none=>none
   | _=>none
  | _=>none) else none
 | .mapDel kd m k=>bif keyOk kd (ev E k) then (match ev E m with
  | .map none=>some (.tuple [],A)
  | .map (some f)=>match A.get f with
   | some (.map es clock)=>match mapCut (ev E k) es clock with|some b=>some (.tuple [],A.put f b)|none=>none
   | _=>none
  | _=>none) else none
 | .range isMap x=>match isMap,ev E x with
  | false,.str s=>some (.ptr (some (A.next,0,0)),A.push (.iter (.str s 0)))
  | true,.map none=>some (.ptr (some (A.next,0,0)),A.push (.iter (.map none 0 [] 0)))
  | true,.map (some f)=>match A.get f with
   | some (.map _ clock)=>some (.ptr (some (A.next,0,0)),A.push (.iter (.map (some f) clock [] clock)))
   | _=>none
  | _,_=>none
 | .clearS zero x=>match ev E x with
  | .slice none _ 0 _ _=>some (.tuple [],A)
  | .slice (some p) _ n _ _=>if n=0 then some (.tuple [],A) else match A.write p (List.replicate n zero).flatten with|some B=>some (.tuple [],B)|none=>none
  | _=>none
 | .clearM x=>match ev E x with
  | .map none=>some (.tuple [],A)
  | .map (some f)=>match A.get f with
   | some (.map _ clock)=>some (.tuple [],A.put f (.map [] clock))
   | _=>none
  | _=>none
 | .next isStr it=>match ev E it with
  | .ptr (some (f,0,0))=>match A.get f with
   | some (.iter (.str s pos))=>bif isStr then (if pos<s.length then
     some (.tuple [.bool true,.int .i64 pos,.int .i32 (Utf8.decode ⟨s.toArray⟩ pos).1],A.put f (.iter (.str s (pos+(Utf8.decode ⟨s.toArray⟩ pos).2))))
    else some (.tuple [.bool false],A)) else none
   | some (.iter (.map none _ _ _))=>bif isStr then none else some (.tuple [.bool false],A)
   | some (.iter (.map (some g) since seen last))=>bif isStr then none else match A.get g with
    | some (.map es clock)=>bif (!seen.isEmpty&&!es.isEmpty&&es.all fun e=>decide (e.2.2≥last)) then none else
     match oldOf since seen es,newOf' since seen es with
     | [],[]=>some (.tuple [.bool false],A)
     | [(k,v,b)],[]=>some (.tuple [.bool true,k,v],A.put f (.iter (.map (some g) since (seen++[b]) clock)))
     | _,_=>none
    | _=>none
   | _=>none
  | _=>none
 | _=>none

inductive Cls where
 | pure|new|read|eff|call|quiet
 deriving DecidableEq
def AOp.cls:AOp→Cls
 | .box _|.alloc _|.buildSlice ..|.makeSlice ..|.bytesOf _|.appendZ ..=>.new
 | .eq ..|.load ..|.textOf _|.lookup ..|.lenMap _|.entry _=>.read
 | .mkMap|.mark ..|.store ..|.append ..|.copy ..|.mapPut ..|.mapDel ..|.range ..|.next ..|.clearS ..|.clearM ..=>.eff
 | .call ..|.callv ..|.invoke ..=>.call
 | .qcall ..=>.quiet
 | _=>.pure

abbrev Disp:=TypeId→String→Option (FuncId × Bool)
def rowOf (t:TypeId):List (TypeId × FuncId × Option (Nat × Nat × Bool))→Option (FuncId × Option (Nat × Nat × Bool))
 | []=>none
 | (u,r)::l=>bif Nat.beq u t then some r else rowOf t l
def rcvOf (A:St) (v:AV):Option (Nat × Nat × Bool)→Option AV
 | none=>some v
 | some (off,n,agg)=>match v with
  | .ptr (some (f,u,o))=>if n=0 then none else match A.cells (f,u,o+off) n with
   | some l=>bif agg then some (.agg l) else (match l with|[x]=>some x|_=>none)
   | none=>none
  | .agg cs=>if n=0 then cs[off]? else none
  | _=>none
def yieldId:FuncId:=1000000007
def calleeOf (_D:Disp) (E:Env) (A:St):AOp→Option (FuncId × List AV)
 | .call f args=>some (f,evs E args)
 | .qcall f args=>some (f,evs E args)
 | .callv x args=>match ev E x with
  | .func (.func f) first captured=>bif Nat.beq f yieldId then none else some (f,first++(evs E args++captured))
  | .yld f=>some (yieldId,.yld f::evs E args)
  | _=>none
 | .invoke x tab args=>match ev E x with
  | .iface t v=>match rowOf t tab with
   | some (f,r)=>(match rcvOf A v r with|some u=>bif Nat.beq f yieldId then none else some (f,u::evs E args)|none=>none)
   | none=>none
  | _=>none
 | _=>none

abbrev Calls':=FuncId→List AV→St→Option (AV × St)

def lateCut (size:Nat) (A:St) (x:AV) (lo hi mx:Option AV):Option AV:=
 match mx,hi,x with
 | none,some h,.slice (some (f,v,o)) po len skip (q+1)=>
  match A.get f with
  | some (.cells cs vers _ false)=>match findVer v vers with
   | some y=>match bound? ((y.hi - o) / size) h with
    | some h=>match boundLo lo h with
     | some l=>if size=q+1∧y.lo≤o∧o≤y.hi then some (.slice (some (f,v,o+l*size)) (if l=0 then po else o) (h - l) (skip+l) (q+1)) else none
     | none=>none
    | none=>none
   | none=>none
  | _=>none
 | _,_,_=>none
def lateOf (E:Env) (A:St):AOp→Option AV
 | .cutSlice size x lo hi mx=>lateCut size A (ev E x) (evo E lo) (evo E hi) (evo E mx)
 | _=>none

mutual
def noPlace:AV→Bool
 | .bool _|.int _ _|.str _|.ty _ _|.ptr none|.map none|.nilFunc|.nilIface|.slice none _ _ _ 0=>true
 | .tuple l|.agg l=>noPlaces l
 | .iface _ v=>noPlace v
 | _=>false
def noPlaces:List AV→Bool
 | []=>true
 | a::l=>noPlace a&&noPlaces l
end
def verBeq (a b:Ver):Bool:=Nat.beq a.v b.v&&(Nat.beq a.lo b.lo&&(Nat.beq a.hi b.hi&&Nat.beq a.sz b.sz))
def listBeq {α:Type} (f:α→α→Bool):List α→List α→Bool
 | [],[]=>true
 | a::l,b::r=>f a b&&listBeq f l r
 | _,_=>false
def entBeq (a b:AV × AV × Nat):Bool:=Nat.beq a.2.2 b.2.2&&(AV.beq a.1 b.1&&AV.beq a.2.1 b.2.1)
def boolBeq:Bool→Bool→Bool
 | true,true=>true
 | false,false=>true
 | _,_=>false
def optBeq:Option Nat→Option Nat→Bool
 | none,none=>true
 | some a,some b=>Nat.beq a b
 | _,_=>false
def Itr.beq:Itr→Itr→Bool
 | .str s p,.str t q=>Nat.beq p q&&(s == t)
 | .map g a s l,.map h b t k=>optBeq g h&&(Nat.beq a b&&(listBeq Nat.beq s t&&Nat.beq l k))
 | .gone,.gone=>true
 | _,_=>false
def Blk.beq:Blk→Blk→Bool
 | .cells cs vs nv ro,.cells ds us mv so=>Nat.beq nv mv&&(boolBeq ro so&&(listBeq verBeq vs us&&AV.beqs cs ds))
 | .map es c,.map fs d=>Nat.beq c d&&listBeq entBeq es fs
 | .iter a,.iter b=>Itr.beq a b
 | _,_=>false
def oblkBeq:Option Blk→Option Blk→Bool
 | none,none=>true
 | some a,some b=>Blk.beq a b
 | _,_=>false
def sameTo (A B:St):Nat→Bool
 | 0=>true
 | n+1=>oblkBeq (A.get n) (B.get n)&&sameTo A B n
def quietOf (G:Calls') (f:FuncId) (args:List AV) (A:St):Option AV:=
 match G f args A with
 | some (r,B)=>bif noPlace r&&sameTo A B A.next then some r else none
 | none=>none
def opOf (D:Disp) (G:Calls') (E:Env) (A:St) (op:AOp):Option (AV × St):=
 match op.cls with
 | .pure=>match pureOf E op with|some v=>some (v,A)|none=>none
 | .new=>match newOf E op with|some (cs,sz,m)=>(let (f,B):=A.makeV cs sz m.ver;some (m.value f,B))|none=>none
 | .read=>match readOf E A op with|some v=>some (v,A)|none=>none
 | .eff=>effOf E A op
 | .call=>match calleeOf D E A op with|some (f,args)=>bif allKnown args then G f args A else none|none=>none
 | .quiet=>match calleeOf D E A op with|some (f,args)=>bif allKnown args then (match quietOf G f args A with|some r=>some (r,A)|none=>none) else none|none=>none

def opOfL (D:Disp) (G:Calls') (E:Env) (A:St) (op:AOp):Option (AV × St):=
 match opOf D G E A op with
 | some r=>some r
 | none=>match lateOf E A op with
  | some v=>some (v,A)
  | none=>none

def wantedA (E:Env):Option (Nat × Bool)→Option Bool
 | none=>some true
 | some (t,b)=>match (bif Nat.blt t 1000000 then Env.at E t else .bot) with
  | .bool c=>some (c == b)
  | .tuple []=>some false
  | _=>none

def runOps (D:Disp) (G:Calls'):List AOper→Env→St→Option (Env × St)
 | [],E,A=>some (E,A)
 | o::l,E,A=>
  match wantedA E o.guard with
  | some true=>match opOfL D G E A o.op with
   | some (v,B)=>runOps D G l (Env.put E o.dst v) B
   | none=>none
  | some false=>runOps D G l (Env.put E o.dst (.tuple [])) A
  | none=>none

def runTr (D:Disp) (G:Calls'):List (AOper × Nat × Nat)→Env→St→Option (List (Env × St))
 | [],E,A=>some [(E,A)]
 | (o,_,_)::l,E,A=>
  match wantedA E o.guard with
  | some true=>match opOf D G E A o.op with
   | some (v,B)=>match runTr D G l (Env.put E o.dst v) B with
    | some tr=>some ((E,A)::tr)
    | none=>none
   | none=>none
  | some false=>match runTr D G l (Env.put E o.dst (.tuple [])) A with
   | some tr=>some ((E,A)::tr)
   | none=>none
  | none=>none
def isTrue:Option Bool→Bool
 | some true=>true
 | _=>false
def sameRead:Option AV→Option AV→Bool
 | some a,some b=>AV.beq a b
 | _,_=>false
def isLook (o:AOp):Bool:=match o.cls with|.read|.quiet=>true|_=>false
def lookOf (D:Disp) (G:Calls') (E:Env) (A:St) (op:AOp):Option AV:=match opOf D G E A op with|some (v,_)=>some v|none=>none
def sameIn (D:Disp) (G:Calls') (tr:List (Env × St)) (E:Env) (op:AOp) (v:Option AV):Nat→Nat→Bool
 | _,0=>true
 | q,n+1=>match tr[q]? with
  | some x=>sameRead (lookOf D G E x.2 op) v&&sameIn D G tr E op v (q+1) n
  | none=>false
def chkTr (D:Disp) (G:Calls') (tr:List (Env × St)):Nat→List (AOper × Nat × Nat)→Bool
 | _,[]=>true
 | i,(o,lo,hi)::l=>(match tr[i]? with
  | some x=>bif isLook o.op&&isTrue (wantedA x.1 o.guard) then sameIn D G tr x.1 o.op (lookOf D G x.1 x.2 o.op) lo (hi+1 - lo) else true
  | none=>false)&&chkTr D G tr (i+1) l
def lastOf {α:Type}:List α→Option α
 | []=>none
 | [x]=>some x
 | _::y::l=>lastOf (y::l)

def loopN (g:Env→St→Option (Ex × Env × St)):Nat→Env→St→Option (Ex × Env × St)
 | 0,_,_=>none
 | n+1,E,A=>match g E A with
  | some (.normal,E',A')=>loopN g n E' A'
  | r=>r

def interp (D:Disp) (G:Calls') (n:Nat):ACode→Env→St→Option (Ex × Env × St)
 | .skip,E,A=>some (.normal,E,A)
 | .region ops,E,A=>match runOps D G ops E A with|some (E',A')=>some (.normal,E',A')|none=>none
 | .draws l,E,A=>match runTr D G l E A with
  | some tr=>bif chkTr D G tr 0 l then (match lastOf tr with|some x=>some (.normal,x.1,x.2)|none=>none) else none
  | none=>none
 | .seq a b,E,A=>match interp D G n a E A with
  | some (.normal,E',A')=>interp D G n b E' A'
  | r=>r
 | .cond c x y,E,A=>match ev E c with
  | .bool true=>interp D G n x E A
  | .bool false=>interp D G n y E A
  | _=>none
 | .block id c,E,A=>match interp D G n c E A with
  | some (.exit i,E',A')=>if i=id then some (.normal,E',A') else some (.exit i,E',A')
  | r=>r
 | .loop c,E,A=>loopN (interp D G n c) n E A
 | .exit id,E,A=>some (.exit id,E,A)
 | .ret,E,A=>some (.ret,E,A)
 | .rangeF f ps k a b,E,A=>match ev E f with
  | .func (.func g) first captured=>bif Nat.beq g yieldId then none else (match G g (first++(.yld A.next::captured)) (A.push (.iter (.loop ⟨E,ps,k,a,b,0,none⟩))) with
   | some (_,B)=>(match B.get A.next with
    | some (.iter (.loop r))=>bif Nat.beq r.st 1 then none else (match r.pend with
     | none=>some (.normal,E,B.put A.next (.iter .gone))
     | some ex=>some (ex,E,B.put A.next (.iter .gone)))
    | _=>none)
   | none=>none)
  | _=>none


inductive ARes where
 | tmp (t:Nat)
 | cell (t n:Nat) (agg:Bool)

structure AFn where
 body:ACode
 n:Nat
 res:List ARes

def known:AV→Option AV
 | .bot=>none
 | v=>some v
def slotAt (E:Env) (t:Nat):AV:=bif Nat.blt t 1000000 then Env.at E t else .bot
def resVal (E:Env) (A:St):ARes→Option AV
 | .tmp t=>known (slotAt E t)
 | .cell t n agg=>match slotAt E t with
  | .ptr (some p)=>match A.cells p n with
   | some l=>bif agg then some (.agg l) else (match l with|[v]=>some v|_=>none)
   | none=>none
  | _=>none
def resVals (E:Env) (A:St):List ARes→Option (List AV)
 | []=>some []
 | r::l=>match resVal E A r with
  | some v=>(match resVals E A l with|some vs=>some (v::vs)|none=>none)
  | none=>none
def packRes:List AV→AV
 | [v]=>v
 | l=>.tuple l
def setArgs:Nat→List AV→Env→Env
 | _,[],E=>E
 | i,a::l,E=>setArgs (i+1) l (T.set E i a)

def runFn (D:Disp) (G:Calls') (k:Nat) (G0:Env) (fn:AFn) (args:List AV) (A:St):Option (AV × St):=
 if args.length≤fn.n∧fn.n≤1000000 then
  match interp D G k fn.body (setArgs 0 args G0) A with
  | some (.exit _,_,_)=>none
  | some (_,E,B)=>match resVals E B fn.res with
   | some l=>some (packRes l,B)
   | none=>none
  | none=>none
 else none

def putPs:List Nat→List AV→Env→Env
 | p::ps,a::l,E=>putPs ps l (T.set E p a)
 | _,_,E=>E
def Ex.isNormal:Ex→Bool
 | .normal=>true
 | _=>false
def Ex.jump:Ex→Option Ex
 | .normal=>none
 | e=>some e
def runRound (D:Disp) (G:Calls') (k:Nat) (args:List AV) (A:St):Option (AV × St):=
 match args with
 | .yld l::as=>match A.get l with
  | some (.iter (.loop r))=>bif Nat.beq r.st 0&&Nat.beq as.length r.ps.length then (match interp D G k r.a (putPs r.ps as r.E) A with
   | some (.normal,E1,A1)=>(match A1.get l with
    | some (.iter (.loop r1))=>bif Nat.beq r1.st 0 then (match interp D G k r.b E1 (A1.put l (.iter (.loop { r1 with st:=1 }))) with
     | some (ex,_,A2)=>(match A2.get l with
      | some (.iter (.loop r2))=>some (.bool ex.isNormal,A2.put l (.iter (.loop { r2 with st:=bif ex.isNormal then 0 else 2,pend:=ex.jump })))
      | _=>none)
     | none=>none) else none
    | _=>none)
   | _=>none) else none
  | _=>none
 | _=>none

def calls (D:Disp) (G0:Env) (fns:Nat→Option AFn) (X:Calls'):Nat→Calls'
 | 0,_,_,_=>none
 | k+1,f,args,A=>match fns f with
  | some fn=>runFn D (calls D G0 fns X k) k G0 fn args A
  | none=>bif Nat.beq f yieldId then runRound D (calls D G0 fns X k) k args A else X f args A

end Go.AM
