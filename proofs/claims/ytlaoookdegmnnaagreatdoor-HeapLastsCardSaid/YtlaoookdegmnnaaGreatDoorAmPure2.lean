/- The abstract machine: operations of their operands alone, all of them. -/
import Derived.Test.YtlaoookdegmnnaaGreatDoorAmDefs
import Derived.Deep.AppendSrc
import Derived.Laws.IdiomCopy
import Derived.Laws.IdiomStrings
import Derived.Laws.Entries
import Derived.Laws.Pointers
import Derived.Laws.Small
import Derived.Laws.Strings
import Derived.Laws.Concat
import Derived.ChangeKeysEq
set_option linter.unusedVariables false
set_option linter.unusedSimpArgs false
namespace Go.AM

theorem nbeq {a b:Nat} (h:a≠b):Nat.beq a b=false:=by
 cases h':Nat.beq a b
 ·rfl
 ·exact absurd (Nat.eq_of_beq_eq_true h') h
theorem T.get_setF {α:Type} (a:α):∀ (k:Nat) (t:T α) (n m:Nat),n<k→(T.setF a k t n).get m=if m=n then some a else t.get m
 | 0,_,_,_,h=>by omega
 | k+1,.nil,n,m,h=>by
  have ih:=T.get_setF a k .nil
  simp only[T.setF]
  by_cases h0:n=0
  ·subst h0
   simp only[Nat.beq_refl,cond_true,T.get]
   by_cases hm:m=0
   ·subst hm;simp
   ·have:Nat.beq m 0=false:=nbeq hm
    simp[this,hm,T.get]
  ·have e0:Nat.beq n 0=false:=nbeq h0
   by_cases h1:n % 2=1
   ·have e1:Nat.beq (n % 2) 1=true:=by simpa using h1
    simp only[e0,e1,cond_false,cond_true,T.get]
    by_cases hm:m=0
    ·subst hm;simp;omega
    ·have f0:Nat.beq m 0=false:=nbeq hm
     by_cases hm1:m % 2=1
     ·have f1:Nat.beq (m % 2) 1=true:=by simpa using hm1
      simp only[f0,f1,cond_false,cond_true]
      rw[ih _ _ (by omega)]
      simp only[T.get]
      by_cases e:m=n
      ·subst e;simp
      ·rw[if_neg e,if_neg (by omega)]
     ·have f1:Nat.beq (m % 2) 1=false:=nbeq hm1
      simp only[f0,f1,cond_false,T.get]
      rw[if_neg (by intro e;subst e;exact hm1 h1)]
   ·have e1:Nat.beq (n % 2) 1=false:=nbeq h1
    simp only[e0,e1,cond_false,T.get]
    by_cases hm:m=0
    ·subst hm;simp;omega
    ·have f0:Nat.beq m 0=false:=nbeq hm
     by_cases hm1:m % 2=1
     ·have f1:Nat.beq (m % 2) 1=true:=by simpa using hm1
      simp only[f0,f1,cond_false,cond_true,T.get]
      rw[if_neg (by intro e;subst e;exact h1 hm1)]
     ·have f1:Nat.beq (m % 2) 1=false:=nbeq hm1
      simp only[f0,f1,cond_false]
      rw[ih _ _ (by omega)]
      simp only[T.get]
      by_cases e:m=n
      ·subst e;simp
      ·rw[if_neg e,if_neg (by omega)]
 | k+1,.node l v r,n,m,h=>by
  have ihl:=T.get_setF a k l
  have ihr:=T.get_setF a k r
  simp only[T.setF]
  by_cases h0:n=0
  ·subst h0
   simp only[Nat.beq_refl,cond_true,T.get]
   by_cases hm:m=0
   ·subst hm;simp
   ·have:Nat.beq m 0=false:=nbeq hm
    simp[this,hm,T.get]
  ·have e0:Nat.beq n 0=false:=nbeq h0
   by_cases h1:n % 2=1
   ·have e1:Nat.beq (n % 2) 1=true:=by simpa using h1
    simp only[e0,e1,cond_false,cond_true,T.get]
    by_cases hm:m=0
    ·subst hm;simp;omega
    ·have f0:Nat.beq m 0=false:=nbeq hm
     by_cases hm1:m % 2=1
     ·have f1:Nat.beq (m % 2) 1=true:=by simpa using hm1
      simp only[f0,f1,cond_false,cond_true]
      rw[ihl _ _ (by omega)]
      by_cases e:m=n
      ·subst e;simp
      ·rw[if_neg e,if_neg (by omega)]
     ·have f1:Nat.beq (m % 2) 1=false:=nbeq hm1
      simp only[f0,f1,cond_false]
      rw[if_neg (by intro e;subst e;exact hm1 h1)]
   ·have e1:Nat.beq (n % 2) 1=false:=nbeq h1
    simp only[e0,e1,cond_false,T.get]
    by_cases hm:m=0
    ·subst hm;simp;omega
    ·have f0:Nat.beq m 0=false:=nbeq hm
     by_cases hm1:m % 2=1
     ·have f1:Nat.beq (m % 2) 1=true:=by simpa using hm1
      simp only[f0,f1,cond_false,cond_true]
      rw[if_neg (by intro e;subst e;exact h1 hm1)]
     ·have f1:Nat.beq (m % 2) 1=false:=nbeq hm1
      simp only[f0,f1,cond_false]
      rw[ihr _ _ (by omega)]
      by_cases e:m=n
      ·subst e;simp
      ·rw[if_neg e,if_neg (by omega)]

theorem T.get_set {α:Type} (t:T α) (n m:Nat) (a:α):(t.set n a).get m=if m=n then some a else t.get m:=T.get_setF a (n+1) t n m (by omega)

theorem St.get_put (A:St) (f g:Nat) (b:Blk):(A.put f b).get g=if g=f then some b else A.get g:=T.get_set _ _ _ _
theorem St.get_push (A:St) (g:Nat) (b:Blk):(A.push b).get g=if g=A.next then some b else A.get g:=T.get_set _ _ _ _
@[simp] theorem St.next_put (A:St) (f:Nat) (b:Blk):(A.put f b).next=A.next:=rfl
@[simp] theorem St.next_push (A:St) (b:Blk):(A.push b).next=A.next+1:=rfl

structure Loc where
 cb:Nat
 co:Nat
 lo:Nat
 cap:Nat
 sz:Nat

structure Mu where
 loc:Nat→Nat→Option Loc
 gho:Nat→Option Addr
 /-- The program. -/
 pg:Program
 /-- What is known of the blocks that nobody touches. -/
 tab:List (Nat × (Array Value→Prop))
instance:CoeFun Mu (fun _=>Nat→Nat→Option Loc):=⟨Mu.loc⟩
structure Mu.le (m m':Mu):Prop where
 loc:∀ f v l,m f v=some l→m' f v=some l
 gho:∀ k a,m.gho k=some a→m'.gho k=some a
 pg:m'.pg=m.pg
 tab:m'.tab=m.tab
theorem Mu.le_refl (m:Mu):m.le m:=⟨fun _ _ _ h=>h,fun _ _ h=>h,rfl,rfl⟩
theorem Mu.le_trans {a b c:Mu} (h:a.le b) (h':b.le c):a.le c:=⟨fun f v l e=>h'.loc f v l (h.loc f v l e),fun k x e=>h'.gho k x (h.gho k x e),h'.pg.trans h.pg,h'.tab.trans h.tab⟩
def Mu.add (m:Mu) (f v:Nat) (l:Loc):Mu:=⟨fun g u=>if g=f∧u=v then some l else m g u,m.gho,m.pg,m.tab⟩
theorem Mu.le_add {m:Mu} {f v:Nat} (l:Loc) (h:m f v=none):m.le (m.add f v l):=by
 refine⟨fun g u k e=>?_,fun _ _ e=>e,rfl,rfl⟩
 unfold Mu.add
 dsimp only
 split
 ·rename_i c;rw[c.1,c.2,h] at e;cases e
 ·exact e

def plc (m:Mu) (p:Pl):Option Addr:=
 match m p.1 p.2.1 with
 | some l=>if l.lo≤p.2.2 then some ⟨l.cb,l.co+(p.2.2 - l.lo),none⟩ else none
 | none=>none

mutual
def cvo (m:Mu):AV→Option Value
 | .bool b=>some (.bool b)
 | .int k n=>some (.int k n)
 | .str s=>some (.string ⟨s.toArray⟩)
 | .ptr none=>some (.pointer none)
 | .ptr (some p)=>(plc m p).map fun a=>.pointer (some a)
 | .slice none po len cap q=>if len=0∧cap=0 then (if q=0 then some (.slice none 0 0) else (m.gho po).map fun a=>.slice (some a) 0 0) else none
 | .slice (some p) _ len cap 0=>if len≤cap then (plc m p).map fun a=>.slice (some a) len cap else none
 | .slice (some p) po len skip (q+1)=>
  match m p.1 p.2.1 with
  | some l=>if l.lo+skip*l.sz=p.2.2∧skip+len≤l.cap∧l.sz=q+1 then (plc m (p.1,p.2.1,if l.cap=skip then po else p.2.2)).map fun a=>.slice (some a) len (l.cap - skip) else none
  | none=>none
 | .map none=>some (.map none)
 | .map (some f)=>(m f 0).map fun l=>.map (some l.cb)
 | .func fn x y=>match cvos m x,cvos m y with|some x',some y'=>some (.func fn x'.toArray y'.toArray)|_,_=>none
 | .nilFunc=>some .nilFunc
 | .iface t v=>(cvo m v).map (.iface t)
 | .nilIface=>some .nilIface
 | .agg l=>(cvos m l).map fun l'=>.agg l'.toArray
 | .tuple l=>(cvos m l).map fun l'=>.tuple l'.toArray
 | .ty b t=>some (.pointer (some ⟨b,t,none⟩))
 | .yld f=>(m f 0).map fun l=>.func (.yield l.cb) #[] #[]
 | .bot=>none
def cvos (m:Mu):List AV→Option (List Value)
 | []=>some []
 | a::l=>match cvo m a,cvos m l with|some y,some ys=>some (y::ys)|_,_=>none
end

theorem plc_mono {m m':Mu} (h:m.le m') {p:Pl} {a:Addr} (e:plc m p=some a):plc m' p=some a:=by
 unfold plc at *
 split at e
 ·rename_i l hl;rw[h.loc _ _ _ hl];exact e
 ·cases e

mutual
theorem quq {m m':Mu} (h:m.le m'):∀ (a:AV) (y:Value),cvo m a=some y→cvo m' a=some y
 | .bool _,_,e=>e
 | .int _ _,_,e=>e
 | .str _,_,e=>e
 | .ptr none,_,e=>e
 | .ptr (some p),y,e=>by
  simp only[cvo] at *
  cases hp:plc m p with
  | none=>simp[hp] at e
  | some a=>rw[plc_mono h hp];simpa[hp] using e
 | .slice none po len cap q,y,e=>by
  simp only[cvo] at *
  split at e
  ·rename_i hz
   rw[if_pos hz]
   split at e
   ·rename_i hq;rw[if_pos hq];exact e
   ·rename_i hq
    rw[if_neg hq]
    cases hp:m.gho po with
    | none=>simp[hp] at e
    | some a=>rw[h.gho _ _ hp];simpa[hp] using e
  ·cases e
 | .slice (some p) _ _ _ 0,y,e=>by
  simp only[cvo] at *
  split at e
  ·rename_i hle
   rw[if_pos hle]
   cases hp:plc m p with
   | none=>simp[hp] at e
   | some a=>rw[plc_mono h hp];simpa[hp] using e
  ·cases e
 | .slice (some p) po len skip (q+1),y,e=>by
  simp only[cvo] at *
  split at e
  ·rename_i l hl
   rw[h.loc _ _ _ hl]
   dsimp only
   split at e
   ·rename_i hc
    rw[if_pos hc]
    cases hp:plc m (p.1,p.2.1,if l.cap=skip then po else p.2.2) with
    | none=>simp[hp] at e
    | some a=>rw[plc_mono h hp];simpa[hp] using e
   ·cases e
  ·cases e
 | .map none,_,e=>e
 | .map (some f),y,e=>by
  simp only[cvo] at *
  cases hp:m f 0 with
  | none=>simp[hp] at e
  | some a=>rw[h.loc _ _ _ hp];simpa[hp] using e
 | .func fn u v,y,e=>by
  simp only[cvo] at *
  split at e
  ·rename_i x' y' hx hy
   rw[cvos_mono h u _ hx,cvos_mono h v _ hy];exact e
  ·cases e
 | .nilFunc,_,e=>e
 | .iface t v,y,e=>by
  simp only[cvo] at *
  cases hp:cvo m v with
  | none=>simp[hp] at e
  | some a=>rw[quq h v _ hp];simpa[hp] using e
 | .nilIface,_,e=>e
 | .agg l,y,e=>by
  simp only[cvo] at *
  cases hp:cvos m l with
  | none=>simp[hp] at e
  | some a=>rw[cvos_mono h l _ hp];simpa[hp] using e
 | .tuple l,y,e=>by
  simp only[cvo] at *
  cases hp:cvos m l with
  | none=>simp[hp] at e
  | some a=>rw[cvos_mono h l _ hp];simpa[hp] using e
 | .ty _ _,_,e=>e
 | .yld f,y,e=>by
  simp only[cvo] at *
  cases hp:m f 0 with
  | none=>simp[hp] at e
  | some a=>rw[h.loc _ _ _ hp];simpa[hp] using e
 | .bot,_,e=>by simp[cvo] at e
theorem cvos_mono {m m':Mu} (h:m.le m'):∀ (l:List AV) (ys:List Value),cvos m l=some ys→cvos m' l=some ys
 | [],_,e=>e
 | a::l,ys,e=>by
  simp only[cvos] at *
  split at e
  ·rename_i y zs hy hz
   rw[quq h a _ hy,cvos_mono h l _ hz];exact e
  ·cases e
end

theorem qgq {m:Mu}:∀ {l:List AV} {ys:List Value},cvos m l=some ys→ys.length=l.length
 | [],_,e=>by simp[cvos] at e;subst e;rfl
 | a::l,ys,e=>by
  simp only[cvos] at e
  split at e
  ·rename_i y zs hy hz
   simp at e;subst e;simp[qgq hz]
  ·cases e
theorem cvos_get {m:Mu}:∀ {l:List AV} {ys:List Value},cvos m l=some ys→∀ {j:Nat} {a:AV},l[j]?=some a→∃ y,cvo m a=some y∧ys[j]?=some y
 | [],_,e,j,a,h=>by simp at h
 | b::l,ys,e,j,a,h=>by
  simp only[cvos] at e
  split at e
  ·rename_i y zs hy hz
   simp at e;subst e
   cases j with
   | zero=>simp at h;subst h;exact⟨y,hy,rfl⟩
   | succ j=>simp at h;simpa using cvos_get hz h
  ·cases e
theorem cvos_get' {m:Mu}:∀ {l:List AV} {ys:List Value},cvos m l=some ys→∀ {j:Nat} {y:Value},ys[j]?=some y→∃ a,l[j]?=some a∧cvo m a=some y
 | [],_,e,j,a,h=>by simp[cvos] at e;subst e;simp at h
 | b::l,ys,e,j,a,h=>by
  simp only[cvos] at e
  split at e
  ·rename_i y zs hy hz
   simp at e;subst e
   cases j with
   | zero=>simp at h;subst h;exact⟨b,rfl,hy⟩
   | succ j=>simp at h;simpa using cvos_get' hz h
  ·cases e
theorem cvos_of_all {m:Mu}:∀ {l:List AV},(∀ a∈l,∃ y,cvo m a=some y)→∃ ys,cvos m l=some ys
 | [],_=>⟨[],rfl⟩
 | a::l,h=>by
  obtain⟨y,hy⟩:=h a (by simp)
  obtain⟨ys,hys⟩:=cvos_of_all (l:=l) (fun b hb=>h b (by simp[hb]))
  exact⟨y::ys,by simp[cvos,hy,hys]⟩
theorem cvos_append {m:Mu}:∀ {l k:List AV} {ys zs:List Value},cvos m l=some ys→cvos m k=some zs→cvos m (l++k)=some (ys++zs)
 | [],k,ys,zs,e,h=>by simp[cvos] at e;subst e;simpa using h
 | a::l,k,ys,zs,e,h=>by
  simp only[cvos] at e
  split at e
  ·rename_i y us hy hu
   simp at e;subst e
   simp[cvos,hy,cvos_append hu h]
  ·cases e
theorem oneCell_of_flat {m:Mu} {a:AV} {y:Value} (hf:a.flat=true) (h:cvo m a=some y):y.oneCell'=true:=by
 cases a with
 | agg _=>simp[AV.flat] at hf
 | tuple _=>simp[AV.flat] at hf
 | bot=>simp[AV.flat] at hf
 | ptr p=>
  cases p with
  | none=>simp only[cvo] at h;cases h;rfl
  | some p=>simp only[cvo,Option.map_eq_some_iff] at h;obtain⟨_,_,rfl⟩:=h;rfl
 | slice p po len cap q=>
  cases p with
  | none=>
   simp only[cvo] at h
   split at h
   ·split at h
    ·cases h;rfl
    ·simp only[Option.map_eq_some_iff] at h;obtain⟨_,_,rfl⟩:=h;rfl
   ·cases h
  | some p=>
   cases q with
   | zero=>
    simp only[cvo] at h
    split at h
    ·simp only[Option.map_eq_some_iff] at h;obtain⟨_,_,rfl⟩:=h;rfl
    ·cases h
   | succ q=>
    simp only[cvo] at h
    split at h
    ·split at h
     ·simp only[Option.map_eq_some_iff] at h;obtain⟨_,_,rfl⟩:=h;rfl
     ·cases h
    ·cases h
 | map r=>
  cases r with
  | none=>simp only[cvo] at h;cases h;rfl
  | some p=>simp only[cvo,Option.map_eq_some_iff] at h;obtain⟨_,_,rfl⟩:=h;rfl
 | func fn x y=>
  simp only[cvo] at h
  split at h
  ·cases h;rfl
  ·cases h
 | iface t v=>simp only[cvo,Option.map_eq_some_iff] at h;obtain⟨_,_,rfl⟩:=h;rfl
 | bool _=>simp only[cvo] at h;cases h;rfl
 | int _ _=>simp only[cvo] at h;cases h;rfl
 | str _=>simp only[cvo] at h;cases h;rfl
 | nilFunc=>simp only[cvo] at h;cases h;rfl
 | nilIface=>simp only[cvo] at h;cases h;rfl
 | ty _ _=>simp only[cvo] at h;cases h;rfl
 | yld f=>simp only[cvo,Option.map_eq_some_iff] at h;obtain⟨_,_,rfl⟩:=h;rfl


def isAggB (P:Program) (t:TypeId):Bool:=
 match P.underlying t with
 | some (.struct _)|some (.array _ _)=>true
 | _=>false
def szOf (P:Program) (t:TypeId):Option Nat:=(P.info? t).map (·.size)
def zeroCs (P:Program) (t:TypeId):Option (List AV):=
 match P.info? t with
 | some i=>match i.zero with
  | some z=>z.cells.toList.mapM constFlat
  | none=>none
 | none=>none
def zeroAV (P:Program) (t:TypeId):Option AV:=
 match P.info? t with
 | some i=>match i.zero with
  | some (.agg cs)=>(cs.toList.mapM constFlat).map .agg
  | some z=>constFlat z
  | none=>none
 | none=>none
def basicB (P:Program) (t:TypeId):Bool:=
 match P.underlying t with
 | some (.int _)|some .string|some .bool=>true
 | _=>false
def isConstB:Operand→Bool
 | .const _=>true
 | _=>false

def isU8 (P:Program) (e:TypeId):Bool:=
 match P.underlying e with
 | some (.int .u8)=>true
 | _=>false
theorem isU8_some {P:Program} {e:TypeId} (h:isU8 P e=true):P.underlying e=some (.int .u8):=by
 unfold isU8 at h
 split at h
 ·assumption
 ·cases h

def fieldPartsC (P:Program) (fields:Array Field):List (Nat × Operand)→Option (List (Nat × Nat × Operand))
 | []=>some []
 | (i,x)::l=>match fields[i]? with
  | some f=>match szOf P f.type,fieldPartsC P fields l with
   | some s,some r=>some ((f.offset,s,x)::r)
   | _,_=>none
  | none=>none
def elemParts (size:Nat):List (Nat × Operand)→List (Nat × Nat × Operand)
 | []=>[]
 | (i,x)::l=>(i*size,size,x)::elemParts size l

def ptrOk (P:Program) (t:TypeId):Bool:=
 match P.underlying t with
 | some (.pointer e)=>(match szOf P e with|some (_+1)=>true|_=>false)
 | _=>false
def ptrTypes (P:Program):List TypeId:=(List.range P.types.size).filter fun t=>ptrOk P t&&(match P.info? t with|some i=>!i.methods.isEmpty&&i.comparable|none=>false)
def compEq (P:Program) (op:BinOp) (t:TypeId) (x y:Operand):Option AOp:=
 let neg:=op == .neq
 match P.underlying t with
 | some .bool=>some (.eqb neg x y)
 | some (.int _)|some .string=>some (.bin op x y)
 | some (.pointer e)=>match szOf P e with|some (_+1)=>some (.eq .ptr neg x y)|_=>none
 | some (.slice _)=>some (.eq .nilSlice neg x y)
 | some (.map _ _)=>some (.eq .nilMap neg x y)
 | some (.func _ _ _)=>some (.eq .nilFunc neg x y)
 | some (.interface ms)=>if (ms.isEmpty||isConstB x||isConstB y)=true then some (.eq (.iface true) neg x y) else some (.eq (.dyn (ptrTypes P)) neg x y)
 | _=>none

def compOpA (P:Program):Op→Option AOp
 | .move x|.assign x=>some (.mv x)
 | .pick c a b=>some (.pick c a b)
 | .alloc elem=>(zeroCs P elem).map .alloc
 | .box _ x=>some (.box x)
 | .build t parts=>match P.underlying t,zeroCs P t with
  | some (.struct fields),some z=>if fields.toList.all (fun f=>(P.info? f.type).isSome) then (fieldPartsC P fields parts.toList).map (.build z) else none
  | some (.array _ e),some z=>(szOf P e).map fun s=>.build z (elemParts s parts.toList)
  | _,_=>none
 | .buildSlice t n parts=>match P.underlying t with
  | some (.slice e)=>match szOf P e,zeroCs P e with
   | some s,some z=>if z.length=s∧n*s≤16777216∧1≤s then some (.buildSlice n s (List.replicate n z).flatten (elemParts s parts.toList)) else none
   | _,_=>none
  | _=>none
 | .load t a=>if (P.underlying t).isSome then (szOf P t).map fun s=>.load (if isAggB P t then s else 1) (isAggB P t) a else none
 | .store t a x=>(szOf P t).map fun s=>.store s a x
 | .nilCheck x=>some (.nilCheck x)
 | .binOp op t x y _=>if op == .eql||op == .neq then compEq P op t x y else some (.bin op x y)
 | .unOp op _ x=>some (.un op x)
 | .convert src dst x=>match P.underlying src,P.underlying dst with
  | some (.int _),some (.int k)=>some (.conv k x)
  | some .string,some .string=>some (.same x)
  | some .string,some (.slice e)=>if isU8 P e=true then some (.bytesOf x) else none
  | some (.slice e),some .string=>if isU8 P e=true then some (.textOf x) else none
  | _,_=>none
 | .makeInterface t x=>match P.underlying t with
  | some (.interface _)|none=>none
  | _=>some (.mkIface t x)
 | .makeFunc fn first captured=>some (.mkFunc fn first.toList captured.toList)
 | .makeSlice t l c=>match P.underlying t with
  | some (.slice e)=>match P.info? e,zeroCs P e with
   | some i,some z=>if z.length=i.size∧1≤i.size then some (.makeSlice i.size i.bytes z l c) else none
   | _,_=>none
  | _=>none
 | .slice t x lo hi mx=>match P.underlying t with
  | some .string=>if mx.isNone then some (.cutStr x lo hi) else none
  | some (.slice e)=>(szOf P e).map fun s=>.cutSlice s x lo hi mx
  | some (.array n e)=>(szOf P e).map fun s=>.cutArray n s x lo hi mx
  | _=>none
 | .fieldAddr s x f=>match P.underlying s with
  | some (.struct fields)=>match fields[f]? with
   | some fd=>match szOf P fd.type with|some (_+1)=>some (.fieldAddr fd.offset x)|_=>none
   | none=>none
  | _=>none
 | .field t x f=>match P.underlying t with
  | some (.struct fields)=>match fields[f]? with
   | some fd=>if (P.underlying fd.type).isSome then (szOf P fd.type).map fun s=>.field fd.offset s (isAggB P fd.type) x else none
   | none=>none
  | _=>none
 | .indexAddr t x i=>match P.underlying t with
  | some (.slice e)=>(szOf P e).map fun s=>.atSlice s x i
  | some (.array n e)=>(szOf P e).map fun s=>.atArray n s x i
  | _=>none
 | .index t x i=>match P.underlying t with
  | some .string=>some (.byteAt x i)
  | some (.array n e)=>if (P.underlying e).isSome then (szOf P e).map fun s=>.elemAt n s (isAggB P e) x i else none
  | _=>none
 | .extract t i=>some (.extract t i)
 | .call c=>match c.callee with
  | .builtin .len=>match c.args.toList,(c.argTypes[0]?).bind P.underlying with
   | [x],some .string=>some (.lenStr x)
   | [x],some (.slice _)=>some (.len x)
   | [x],some (.array n _)=>some (.lenArr n x)
   | _,_=>none
  | .builtin .append=>match c.args.toList,c.argTypes.toList with
   | [s,x],[t,tx]=>match P.underlying t,P.underlying tx with
    | some (.slice e),some (.slice _)=>match P.info? e with
     | some i=>match zeroCs P e with
      | some z=>if z.length=i.size then some (.append false i.size i.bytes s x) else none
      | none=>none
     | none=>none
    | some (.slice e),some .string=>match P.info? e with
     | some i=>match zeroCs P e with
      | some z=>if z.length=i.size∧i.size=1 then some (.append true i.size i.bytes s x) else none
      | none=>none
     | none=>none
    | _,_=>none
   | _,_=>none
  | .value (.func f)=>if f=yieldId then none else some (.call f c.args.toList)
  | .value x=>some (.callv x c.args.toList)
  | _=>none
 | _=>none

def keyKind (P:Program) (t:TypeId):Option KK:=
 match P.underlying t with
 | some (.int k)=>some (.int k)
 | some .string=>some .str
 | some .bool=>some .bool
 | _=>none
def mapKind (P:Program) (t:TypeId):Option (KK × TypeId):=
 match P.underlying t with
 | some (.map k e)=>(keyKind P k).map fun kd=>(kd,e)
 | _=>none
def fieldKinds (P:Program):Nat→List Field→Option (List KK)
 | _,[]=>some []
 | k,f::l=>if Nat.beq f.offset k&&f.name != "_" then (match keyKind P f.type,fieldKinds P (k+1) l with|some q,some r=>some (q::r)|_,_=>none) else none
def structKinds (P:Program) (t:TypeId):Option (List KK):=
 match P.underlying t with
 | some (.struct fs)=>if (!P.stoodInHeld t&&!P.eqGuardType P.depth t)=true then fieldKinds P 0 fs.toList else none
 | _=>none
def hasAll (want:Array (String × TypeId)) (got:Array Method):Bool:=want.toList.all fun x=>got.any fun m=>m.name == x.1&&m.sig == x.2
def metTypes (P:Program):List TypeId:=(List.range P.types.size).filter fun t=>match P.info? t with|some i=>!i.methods.isEmpty|none=>false
def hasT (P:Program) (want:Array (String × TypeId)) (b:Bool) (t:TypeId):Bool:=match P.info? t with|some i=>hasAll want i.methods == b|none=>false
def dispRow (P:Program) (name:String) (t:TypeId):Option (FuncId × Option (Nat × Nat × Bool)):=
 match P.info? t with
 | some i=>match i.methods.find? (·.name == name) with
  | some mt=>match mt.func,mt.path.toList with
   | some (f,pr),[]=>match P.underlying t with
    | some (.pointer _)=>bif pr then some (f,none) else none
    | some _=>bif pr then none else some (f,none)
    | none=>none
   | some (f,false),[s]=>bif s.deref then (match P.underlying s.struct with
    | some (.struct fields)=>match fields[s.index]? with
     | some fd=>match P.underlying fd.type with
      | some (.pointer _)|none=>none
      | some _=>match szOf P fd.type with
       | some (k+1)=>some (f,some (fd.offset,if isAggB P fd.type then k+1 else 1,isAggB P fd.type))
       | _=>none
     | none=>none
    | _=>none) else none
   | some (f,true),[s]=>bif s.deref then none else (match P.underlying s.struct with
    | some (.struct fields)=>match fields[s.index]? with
     | some fd=>match P.underlying fd.type with
      | some (.pointer _)=>some (f,some (fd.offset,0,false))
      | _=>none
     | none=>none
    | _=>none)
   | _,_=>none
  | none=>none
 | none=>none
def dispTab (P:Program) (name:String):List (TypeId × FuncId × Option (Nat × Nat × Bool)):=(List.range P.types.size).filterMap fun t=>(dispRow P name t).map fun r=>(t,r)
def compOpB (P:Program):Op→Option AOp
 | .lookup t x i ok=>match mapKind P t with
  | some (kd,e)=>(zeroAV P e).map fun z=>.lookup kd z ok x i
  | none=>none
 | .mapUpdate t mm k v=>(mapKind P t).map fun p=>.mapPut p.1 mm k v
 | .makeMap _ none=>some .mkMap
 | .binOp op t x y _=>if op == .eql||op == .neq then (match structKinds P t with|some ks=>some (.eqAgg (op == .neq) ks x y)|none=>none) else none
 | .range t x=>match P.underlying t with
  | some .string=>some (.range false x)
  | some (.map _ _)=>some (.range true x)
  | _=>none
 | .next it s=>some (.next s it)
 | .entry it=>some (.entry it)
 | .typeAssert x _ t ok=>match P.underlying t with
  | some (.interface want)=>match zeroAV P t with
   | some .nilIface=>some (.isIface ((metTypes P).filter (hasT P want true)) ((metTypes P).filter (hasT P want false)) ok x)
   | _=>none
  | some _=>(zeroAV P t).map fun z=>.isType t z ok x
  | none=>none
 | .call c=>match c.callee with
  | .builtin .len=>match c.args.toList,(c.argTypes[0]?).bind P.underlying with
   | [x],some (.map _ _)=>some (.lenMap x)
   | _,_=>none
  | .builtin .cap=>match c.args.toList,(c.argTypes[0]?).bind P.underlying with
   | [x],some (.slice _)=>some (.cap x)
   | _,_=>none
  | .builtin .append=>match c.args.toList,c.argTypes.toList with
   | [s,x],[t,tx]=>match P.underlying t,P.underlying tx with
    | some (.slice e),some (.int _)=>match P.info? e,zeroCs P e with
     | some i,some z=>if z.length=i.size∧1≤i.size then some (.appendZ i.size i.bytes z s x) else none
     | _,_=>none
    | _,_=>none
   | _,_=>none
  | .invoke recv name=>some (.invoke recv (dispTab P name) c.args.toList)
  | .builtin .min=>some (.minmax false c.args.toList)
  | .builtin .max=>some (.minmax true c.args.toList)
  | .builtin .clear=>match c.args.toList,(c.argTypes[0]?).bind P.underlying with
   | [x],some (.slice e)=>match P.info? e,zeroCs P e with
    | some i,some z=>if z.length=i.size then some (.clearS z x) else none
    | _,_=>none
   | [x],some (.map _ _)=>some (.clearM x)
   | _,_=>none
  | .builtin .delete=>match c.args.toList,(c.argTypes[0]?).bind (mapKind P) with
   | [x,k],some p=>some (.mapDel p.1 x k)
   | _,_=>none
  | _=>none
 | _=>none
def stuckOp:AOp:=.extract (.const (.bool false)) 0
def compOp (P:Program) (op:Op):Option AOp:=
 match compOpA P op with
 | some a=>some a
 | none=>match compOpB P op with
  | some a=>some a
  | none=>some stuckOp
theorem compOp_cases {P:Program} {op:Op} {a:AOp} (h:compOp P op=some a):compOpA P op=some a∨compOpB P op=some a∨a=stuckOp:=by
 unfold compOp at h
 split at h
 ·rename_i x hx;cases h;exact .inl hx
 ·split at h
  ·rename_i x hx;cases h;exact .inr (.inl hx)
  ·cases h;exact .inr (.inr rfl)

def notQ:AOp→Bool
 | .qcall ..=>false
 | _=>true
theorem map_notQ {α:Type} {o:Option α} {g:α→AOp} (hg:∀ a,notQ (g a)=true) {a:AOp} (h:o.map g=some a):notQ a=true:=by
 cases o with
 | none=>cases h
 | some x=>cases h;exact hg x
theorem compEq_notQ {P:Program} {op:BinOp} {t:TypeId} {x y:Operand} {a:AOp} (h:compEq P op t x y=some a):notQ a=true:=by
 unfold compEq at h
 repeat' split at h
 all_goals first|(cases h;done)|(cases h;rfl)|exact map_notQ (fun _=>rfl) h
theorem compOpA_notQ {P:Program} {op:Op} {a:AOp} (h:compOpA P op=some a):notQ a=true:=by
 unfold compOpA at h
 repeat' split at h
 all_goals first|(cases h;done)|(cases h;rfl)|exact map_notQ (fun _=>rfl) h|exact compEq_notQ h

def dstOk (n:Nat):Option Nat→Bool
 | none=>true
 | some d=>decide (d<n∧d<1000000)
def compOper (P:Program) (n:Nat) (ops:Array Oper) (o:Oper):Option AOper:=
 if dstOk n o.dst=true then
 match compOp P o.op with
 | some a=>match o.guard with
  | none=>some ⟨o.dst,a,none⟩
  | some (j,b)=>match (ops[j]?).bind (·.dst) with
   | some t=>if t<n then some ⟨o.dst,a,some (t,b)⟩ else none
   | none=>none
 | none=>none
 else none
def compOpers (P:Program) (n:Nat) (ops:Array Oper):List Oper→Option (List AOper)
 | []=>some []
 | o::l=>match compOper P n ops o,compOpers P n ops l with
  | some a,some r=>some (a::r)
  | _,_=>none


def maskStep (tab:List Nat) (o:Oper):Nat:=o.after.toList.foldl (fun s e=>if Region.binds .any e=true then s ||| 2^e.on ||| tab.getD e.on 0 else s) 0
def masks:List Oper→List Nat→List Nat
 | [],tab=>tab
 | o::l,tab=>masks l (tab++[maskStep tab o])
def opndsOf:AOp→List Operand
 | .mv x|.mark x|.un _ x|.conv _ x|.same x|.extract x _|.mkIface _ x|.nilCheck x|.fieldAddr _ x|.field _ _ _ x|.isType _ _ _ x|.isIface _ _ _ x|.lenStr x|.len x|.lenArr _ x|.box x|.bytesOf x|.load _ _ x|.textOf x|.entry x|.range _ x|.next _ x|.clearS _ x|.clearM x|.lenMap x|.cap x=>[x]
 | .bin _ x y|.eqb _ x y|.atSlice _ x y|.atArray _ _ x y|.byteAt x y|.elemAt _ _ _ x y|.makeSlice _ _ _ x y|.eq _ _ x y|.lookup _ _ _ x y|.store _ x y|.append _ _ _ x y|.copy _ x y|.mapDel _ x y|.eqAgg _ _ x y|.appendZ _ _ _ x y=>[x,y]
 | .pick a b c|.mapPut _ a b c=>[a,b,c]
 | .mkFunc _ x y=>x++y
 | .cutStr x lo hi=>x::(lo.toList++hi.toList)
 | .cutSlice _ x lo hi mx|.cutArray _ _ x lo hi mx=>x::(lo.toList++(hi.toList++mx.toList))
 | .build _ ps|.buildSlice _ _ _ ps=>ps.map (·.2.2)
 | .minmax _ xs|.call _ xs|.qcall _ xs=>xs
 | .alloc _|.mkMap=>[]
 | .callv x xs|.invoke x _ xs=>x::xs
def slotsOf:List Operand→List Nat
 | []=>[]
 | .tmp t::l=>t::slotsOf l
 | _::l=>slotsOf l
def looksOf (o:AOper):List Nat:=(match o.guard with|some (t,_)=>[t]|none=>[])++slotsOf (opndsOf o.op)
def heavy (o:AOper):Bool:=match o.op.cls with|.new|.eff|.call=>true|_=>false
def looseB (x y:AOper):Bool:=
 !(heavy x&&heavy y) &&
 (match x.dst with|some t=>!(looksOf y).contains t&&y.dst != some t|none=>true) &&
 (match y.dst with|some t=>!(looksOf x).contains t|none=>true)
def pairB (i:Nat) (x:AOper):List (AOper × Nat)→Bool
 | []=>true
 | (y,k)::l=>(k.testBit i||looseB x y)&&pairB i x l
def pairsB:Nat→List (AOper × Nat)→Bool
 | _,[]=>true
 | i,(x,_)::l=>pairB i x l&&pairsB (i+1) l
def loOf (mask:Nat):Nat→List AOper→Nat→Nat
 | _,[],r=>r
 | i,x::l,r=>loOf mask (i+1) l (bif heavy x&&mask.testBit i then i+1 else r)
def hiOf (j:Nat):Nat→List (AOper × Nat)→Nat
 | i,[]=>i
 | i,(x,k)::l=>bif heavy x&&k.testBit j then i else hiOf j (i+1) l
def limits (all:List (AOper × Nat)):Nat→List (AOper × Nat)→List (AOper × Nat × Nat)
 | _,[]=>[]
 | i,(x,k)::l=>(x,loOf k 0 (all.map (·.1)) 0,hiOf i 0 all)::limits all (i+1) l
def zipM:List AOper→List Nat→List (AOper × Nat)
 | x::l,k::ks=>(x,k)::zipM l ks
 | _,_=>[]
def backB:Nat→List Oper→Bool
 | _,[]=>true
 | i,o::l=>(o.after.toList.all fun e=>!Region.binds .any e||decide (e.on<i))&&backB (i+1) l
def toQ (o:AOper):AOper:=match o.op with|.call f args=>⟨o.dst,.qcall f args,o.guard⟩|_=>o
def drawOf (ops:Array Oper) (al:List AOper):Option ACode:=
 let all:=zipM al (masks ops.toList [])
 bif pairsB 0 all&&backB 0 ops.toList then some (.draws (limits all 0 all)) else none
def compDraw (P:Program) (n:Nat) (ops:Array Oper):Option ACode:=
 match compOpers P n ops ops.toList with
 | some al=>match drawOf ops al with
  | some c=>some c
  | none=>drawOf ops (al.map toQ)
 | none=>none

theorem drawOf_draws {ops:Array Oper} {al:List AOper} {ac:ACode} (h:drawOf ops al=some ac):∃ lim,ac=.draws lim:=by
 unfold drawOf at h
 dsimp only at h
 cases hb:pairsB 0 (zipM al (masks ops.toList []))&&backB 0 ops.toList with
 | false=>rw[hb] at h;cases h
 | true=>rw[hb] at h;exact⟨_,(Option.some.inj h).symm⟩
theorem compDraw_draws {P:Program} {n:Nat} {ops:Array Oper} {ac:ACode} (h:compDraw P n ops=some ac):∃ lim,ac=.draws lim:=by
 unfold compDraw at h
 split at h
 ·split at h
  ·rename_i hc;cases h;exact drawOf_draws hc
  ·exact drawOf_draws h
 ·cases h
def ACode.noRF:ACode→Bool
 | .seq a b|.cond _ a b=>a.noRF&&b.noRF
 | .block _ c|.loop c=>c.noRF
 | .rangeF ..=>false
 | _=>true
def stuckCode:ACode:=.cond (.const (.int .i64 0)) .skip .skip
def comp (P:Program) (n:Nat):Code→Option ACode
 | .skip=>some .skip
 | .region _ ops false=>(compOpers P n ops ops.toList).map .region
 | .region _ ops true=>match compDraw P n ops with|some c=>some c|none=>some stuckCode
 | .seq a b=>match comp P n a,comp P n b with
  | some x,some y=>some (.seq x y)
  | _,_=>none
 | .cond c a b=>match comp P n a,comp P n b with
  | some x,some y=>some (.cond c x y)
  | _,_=>none
 | .block id c=>(comp P n c).map (.block id)
 | .loop c=>(comp P n c).map .loop
 | .exit id=>some (.exit id)
 | .ret=>some .ret
 | .rangeFunc g ps a c=>match comp P n a,comp P n c with
  | some x,some y=>bif (x.noRF&&y.noRF)&&ps.toList.all fun p=>decide (p<n∧p<1000000) then some (.rangeF g ps.toList n x y) else some stuckCode
  | _,_=>none
 | _=>some stuckCode

def compRes (P:Program) (n:Nat):ResultVar→Option ARes
 | .tmp t=>if t<n∧t<1000000 then some (.tmp t) else none
 | .cell a t=>if a<n∧a<1000000∧(P.underlying t).isSome then (szOf P t).map fun s=>.cell a (if isAggB P t then s else 1) (isAggB P t) else none
def compRess (P:Program) (n:Nat):List ResultVar→Option (List ARes)
 | []=>some []
 | r::l=>match compRes P n r,compRess P n l with
  | some a,some as=>some (a::as)
  | _,_=>none
def compFn (P:Program) (fn:Func):Option AFn:=
 match fn.body with
 | some c=>match comp P fn.ntmps c,compRess P fn.ntmps fn.results.toList with
  | some b,some r=>some ⟨b,fn.ntmps,r⟩
  | _,_=>none
 | none=>none

def Blk.ro:Blk→Bool
 | .cells _ _ _ ro=>ro
 | _=>false
def St.Rw (A:St) (f:Nat):Prop:=∃ b,A.get f=some b∧b.ro=false

structure Fr where
 b:Nat→Option Obj
 os:Os
 out:Array (Nat × ByteArray)
instance:CoeFun Fr (fun _=>Nat→Option Obj):=⟨Fr.b⟩

structure CellsR (F:Fr) (m:Mu) (w:World) (f:Nat) (cs:List AV) (ro:Bool) (x:Ver) (l:Loc):Prop where
 mu:m f x.v=some l
 lo:l.lo=x.lo
 sz:l.sz=x.sz
 hi:x.hi≤cs.length
 cell:∀ i a,x.lo≤i→i<x.hi→cs[i]?=some a→∃ y,cvo m a=some y∧w.cell? ⟨l.cb,l.co+(i - x.lo),none⟩=some y
 rw:ro=false→F l.cb=none∧x.hi - x.lo≤l.cap*l.sz∧∀ j,j<l.cap*l.sz→(w.cell? ⟨l.cb,l.co+j,none⟩).isSome=true∧w.frozen? ⟨l.cb,l.co+j,none⟩=false

def MapR (m:Mu):List (AV × AV × Nat)→List MapEntry→Prop
 | [],[]=>True
 | (k,v,b)::l,e::r=>(cvo m k=some e.key∧cvo m v=some e.val∧e.born=b)∧MapR m l r
 | _,_=>False

def Ex.code:Ex→Code
 | .normal=>.skip
 | .exit id=>.exit id
 | .ret=>.ret
structure LoopR (m:Mu) (r:LoopA) (lr:Loop):Prop where
 tmp:∀ t,t<1000000→Env.at r.E t=.bot∨cvo m (Env.at r.E t)=some (lr.tmps.getD t undef)
 glob:∀ g,Env.at r.E (1000000+g)=.bot∨cvo m (Env.at r.E (1000000+g))=some (.pointer (some ⟨g,0,none⟩))
 size:lr.tmps.size=r.n
 ps:lr.params.toList=r.ps
 lt:∀ p∈r.ps,p<r.n∧p<1000000
 ca:comp m.pg r.n lr.assign=some r.a
 cb:comp m.pg r.n lr.body=some r.b
 na:r.a.noRF=true
 nb:r.b.noRF=true
 st:lr.state=(if r.st=0 then .ready else if r.st=1 then .busy else .done)
 pend:lr.pending=r.pend.map Ex.code
theorem LoopR.mono {m m':Mu} (h:m.le m') {r:LoopA} {lr:Loop} (l:LoopR m r lr):LoopR m' r lr:=
 ⟨fun t ht=>(l.tmp t ht).imp id fun e=>quq h _ _ e,fun g=>(l.glob g).imp id fun e=>quq h _ _ e,l.size,l.ps,l.lt,by rw[h.pg];exact l.ca,by rw[h.pg];exact l.cb,l.na,l.nb,l.st,l.pend⟩

def ItrR (m:Mu):Itr→Obj→Prop
 | .str s pos,ob=>ob=.stringIter ⟨s.toArray⟩ pos
 | .map none since seen last,ob=>ob=.mapIter none since seen.toArray last
 | .map (some g) since seen last,ob=>∃ l,m g 0=some l∧ob=.mapIter (some l.cb) since seen.toArray last
 | .loop r,ob=>∃ lr,ob=.loop lr∧LoopR m r lr
 | .gone,ob=>∃ lr,ob=.loop lr
theorem ItrR.mono {m m':Mu} (h:m.le m'):∀ {o:Itr} {ob:Obj},ItrR m o ob→ItrR m' o ob
 | .str _ _,_,e=>e
 | .map none _ _ _,_,e=>e
 | .map (some _) _ _ _,_,⟨l,e1,e2⟩=>⟨l,h.loc _ _ _ e1,e2⟩
 | .loop _,_,⟨lr,e1,e2⟩=>⟨lr,e1,e2.mono h⟩
 | .gone,_,e=>e
def blkR (F:Fr) (m:Mu) (w:World) (f:Nat):Blk→Prop
 | .cells cs vers nv ro=>(∀ x∈vers,∃ l,CellsR F m w f cs ro x l)∧∀ v,nv≤v→m f v=none
 | .map es clock=>∃ l es',m f 0=some l∧w.heap[l.cb]?=some (.map es' clock)∧F l.cb=none∧MapR m es es'.toList
 | .iter o=>∃ l ob,(m f 0=some l∧l.co=0)∧w.heap[l.cb]?=some ob∧F l.cb=none∧ItrR m o ob

def Unfz (v:Nat) (w:World) (cb:Nat):Prop:=∀ c e fz,w.heap[cb]?=some (.cells c e fz)→fz.1=fz.2∨(v≠0∧c.size≤fz.1)

theorem Unfz.up {v u cb:Nat} {w:World} (h:Unfz v w cb) (hu:u≠0):Unfz u w cb:=fun c e fz hc=>(h c e fz hc).imp id fun x=>⟨hu,x.2⟩
structure Rel (F:Fr) (m:Mu) (A:St) (w:World):Prop where
 dom:∀ f v l,m f v=some l→f<A.next∧l.cb<w.heap.size
 got:∀ f b,A.get f=some b→blkR F m w f b
 keep:∀ cb o,F cb=some o→w.heap[cb]?=some o
 rest:w.os=F.os∧w.output=F.out
 apart:∀ f v l g u k,m f v=some l→m g u=some k→f≠g→A.Rw f→l.cb≠k.cb
 unf:∀ f v l,m f v=some l→A.Rw f→Unfz v w l.cb
 same:∀ f v l u k,m f v=some l→m f u=some k→l.cb=k.cb→l.co+k.lo=k.co+l.lo
 orig:∀ f l,m f 0=some l→A.Rw f→l.co=0
 frm:∀ p,p∈m.tab→∃ c e fz,F.b p.1=some (.cells c e fz)∧p.2 c

theorem qwq {v:Nat}:∀ {vs:List Ver} {x:Ver},findVer v vs=some x→x∈vs∧x.v=v
 | [],_,h=>by simp[findVer] at h
 | y::vs,x,h=>by
  simp only[findVer] at h
  cases e:Nat.beq y.v v with
  | true=>rw[e] at h;simp at h;subst h;exact⟨by simp,Nat.eq_of_beq_eq_true e⟩
  | false=>rw[e] at h;simp at h;have:=qwq h;exact⟨by simp[this.1],this.2⟩

theorem look_spec {A:St} {p:Pl} {cs:List AV} {x:Ver} {nv:Nat} {ro:Bool} (h:A.look p=some (cs,x,nv,ro)) :
  ∃ vers,A.get p.1=some (.cells cs vers nv ro)∧x∈vers∧x.v=p.2.1:=by
 unfold St.look at h
 split at h
 ·rename_i cs' vers nv' ro' hg
  simp only[Option.map_eq_some_iff] at h
  obtain⟨y,hy,he⟩:=h
  simp only[Prod.mk.injEq] at he
  obtain⟨rfl,rfl,rfl,rfl⟩:=he
  exact⟨vers,hg,qwq hy⟩
 ·cases h

theorem Addr.add_mk (b o j:Nat):(⟨b,o,none⟩:Addr).add j=⟨b,o+j,none⟩:=by unfold Addr.add;split<;>simp_all

section
variable {F:Fr} {m:Mu} {A:St} {w:World}

theorem Rel.look (R:Rel F m A w) {p:Pl} {cs:List AV} {x:Ver} {nv:Nat} {ro:Bool} (h:A.look p=some (cs,x,nv,ro)) (hlo:x.lo≤p.2.2) :
  ∃ l,CellsR F m w p.1 cs ro x l∧plc m p=some ⟨l.cb,l.co+(p.2.2 - x.lo),none⟩:=by
 obtain⟨vers,hg,hx,hv⟩:=look_spec h
 obtain⟨l,c⟩:=(R.got _ _ hg).1 x hx
 refine⟨l,c,?_⟩
 have hm:=c.mu
 rw[hv] at hm
 unfold plc
 rw[hm]
 dsimp only
 rw[c.lo,if_pos hlo]

theorem cvos_drop_take {cs:List AV} {o n:Nat} (H:∀ i a,o≤i→i<o+n→cs[i]?=some a→∃ y,cvo m a=some y):∃ ys,cvos m ((cs.drop o).take n)=some ys:=by
 refine cvos_of_all fun a ha=>?_
 obtain⟨i,hi⟩:=List.mem_iff_getElem?.1 ha
 rw[List.getElem?_take] at hi
 split at hi
 ·rename_i hin
  rw[List.getElem?_drop] at hi
  exact H (o+i) a (by omega) (by omega) hi
 ·cases hi

theorem Rel.cells (R:Rel F m A w) {p:Pl} {n:Nat} {l:List AV} (h:A.cells p n=some l) :
  ∃ b o ys,plc m p=some ⟨b,o,none⟩∧cvos m l=some ys∧ys.length=n∧∀ (j:Nat) (y:Value),ys[j]?=some y→w.cell? ⟨b,o+j,none⟩=some y:=by
 unfold St.cells at h
 split at h
 ·rename_i cs x nv ro hl
  split at h
  ·rename_i hc
   obtain⟨h1,h2,h3⟩:=hc
   cases h
   obtain⟨k,c,hp⟩:=R.look hl h1
   have H:∀ i a,p.2.2≤i→i<p.2.2+n→cs[i]?=some a→∃ y,cvo m a=some y:=fun i a hi hj ha=>by
    obtain⟨y,hy,_⟩:=c.cell i a (by omega) (by omega) ha;exact⟨y,hy⟩
   obtain⟨ys,hys⟩:=cvos_drop_take H
   refine⟨_,_,ys,hp,hys,?_,?_⟩
   ·rw[qgq hys,List.length_take,List.length_drop];omega
   ·intro j y hy
    obtain⟨a,ha,hv⟩:=cvos_get' hys hy
    rw[List.getElem?_take] at ha
    split at ha
    ·rename_i hj
     rw[List.getElem?_drop] at ha
     obtain⟨z,hz,hw⟩:=c.cell (p.2.2+j) a (by omega) (by omega) ha
     rw[hv] at hz;cases hz
     rw[show k.co+(p.2.2 - x.lo)+j=k.co+(p.2.2+j - x.lo) by omega]
     exact hw
    ·cases ha
  ·cases h
 ·cases h

theorem MapR.mono {m m':Mu} (h:m.le m'):∀ {l:List (AV × AV × Nat)} {r:List MapEntry},MapR m l r→MapR m' l r
 | [],[],_=>trivial
 | (k,v,b)::l,e::r,⟨⟨h1,h2,h3⟩,h4⟩=>⟨⟨quq h _ _ h1,quq h _ _ h2,h3⟩,MapR.mono h h4⟩

theorem Rel.drew (R:Rel F m A w):Rel F m A w.drew:=⟨R.dom,fun f b h=>by
 have:=R.got f b h
 cases b with
 | cells cs vers nv ro=>
  refine⟨fun x hx=>?_,this.2⟩
  obtain⟨l,c⟩:=this.1 x hx
  exact⟨l,c.mu,c.lo,c.sz,c.hi,c.cell,c.rw⟩
 | map es cl=>exact this
 | iter io=>exact this,R.keep,R.rest,R.apart,R.unf,R.same,R.orig,R.frm⟩

theorem Rel.alloc_other (R:Rel F m A w) (o:Obj):Rel F m A (w.alloc o):=by
 have hold:∀ cb,cb<w.heap.size→(w.alloc o).heap[cb]?=w.heap[cb]?:=fun cb h=>by
  show (w.heap.push o)[cb]?=_
  rw[Array.getElem?_push,if_neg (Nat.ne_of_lt h)]
 refine⟨fun f v l h=>?_,fun f b h=>?_,fun cb x h=>?_,R.rest,R.apart,fun f v l h1 h2 c e fz h3=>R.unf f v l h1 h2 c e fz (by rwa [hold _ (R.dom _ _ _ h1).2] at h3),R.same,R.orig,R.frm⟩
 ·have:=R.dom f v l h;simp;omega
 ·have H:=R.got f b h
  cases b with
  | cells cs vers nv ro=>
   refine⟨fun x hx=>?_,H.2⟩
   obtain⟨l,c⟩:=H.1 x hx
   have hb:=(R.dom _ _ _ c.mu).2
   refine⟨l,c.mu,c.lo,c.sz,c.hi,fun i a h1 h2 h3=>?_,fun hr=>?_⟩
   ·obtain⟨y,hy,hw⟩:=c.cell i a h1 h2 h3
    exact⟨y,hy,by rw[World.cell?_alloc_lt _ _ _ (by simpa using hb)];exact hw⟩
   ·obtain⟨h1,h2,h3⟩:=c.rw hr
    refine⟨h1,h2,fun j hj=>?_⟩
    have:=h3 j hj
    rw[World.cell?_alloc_lt _ _ _ (by simpa using hb)]
    refine⟨this.1,?_⟩
    rw[World.frozen?_of_block (hold _ hb)];exact this.2
  | map es cl=>
   obtain⟨l,es',h1,h2,h3,h4⟩:=H
   exact⟨l,es',h1,by rw[hold _ (R.dom _ _ _ h1).2];exact h2,h3,h4⟩
  | iter io=>
   obtain⟨l,ob,h1,h2,h3,h4⟩:=H
   exact⟨l,ob,h1,by rw[hold _ (R.dom _ _ _ h1.1).2];exact h2,h3,h4⟩
 ·have:=R.keep cb x h
  rw[hold _ (by
   rcases Nat.lt_or_ge cb w.heap.size with h'|h'
   ·exact h'
   ·simp[Array.getElem?_eq_none h'] at this)]
  exact this

theorem Rel.new_cellsV (u0:Nat) (R:Rel F m A w) {cs:List AV} {ys:List Value} (hys:cvos m cs=some ys) {C:Array Value} {e:TypeId} {fz:Nat × Nat} {cap sz:Nat}
  (hC:∀ (j:Nat) (y:Value),ys[j]?=some y→C[j]?=some y) (hcap:cap*sz≤C.size) (hlen:cs.length≤cap*sz) (hu:fz.1=fz.2∨(u0≠0∧C.size≤fz.1)) :
  Rel F (m.add A.next u0 ⟨w.heap.size,0,0,cap,sz⟩) (A.push (.cells cs [⟨u0,0,cs.length,sz⟩] (u0+1) false)) (w.alloc (.cells C e fz))∧m.le (m.add A.next u0 ⟨w.heap.size,0,0,cap,sz⟩):=by
 have hfz:∀ j,j<C.size→(decide (fz.1≤j)&&decide (j<fz.2))=false:=fun j hj=>by
  rw[Bool.and_eq_false_iff,decide_eq_false_iff_not,decide_eq_false_iff_not];omega
 have hnone:∀ v,m A.next v=none:=fun v=>by
  cases h:m A.next v with
  | none=>rfl
  | some l=>exact absurd (R.dom _ _ _ h).1 (by omega)
 have hle:=Mu.le_add ⟨w.heap.size,0,0,cap,sz⟩ (hnone u0)
 have R1:=R.alloc_other (.cells C e fz)
 have hF:F w.heap.size=none:=by
  cases h:F w.heap.size with
  | none=>rfl
  | some o=>have:=R.keep _ _ h;simp at this
 have hof:∀ g u k,(m.add A.next u0 ⟨w.heap.size,0,0,cap,sz⟩) g u=some k→(g=A.next∧u=u0∧k=⟨w.heap.size,0,0,cap,sz⟩)∨(g≠A.next∧m g u=some k):=by
  intro g u k h
  unfold Mu.add at h
  dsimp only at h
  split at h
  ·rename_i c;cases h;exact .inl ⟨c.1,c.2,rfl⟩
  ·refine .inr ⟨?_,h⟩
   intro hg;subst hg;rw[hnone] at h;cases h
 refine⟨⟨fun f v l h=>?_,fun f b h=>?_,R1.keep,R1.rest,fun f v l g u k h1 h2 hne hf=>?_,fun f v l h1 h2=>?_,fun f v l u k h1 h2 he=>?_,fun f l h1 h2=>?_,R.frm⟩,hle⟩
 ·rcases hof f v l h with ⟨rfl,rfl,rfl⟩|⟨_,h⟩
  ·simp
  ·have:=R1.dom f v l h;exact⟨by simp;omega,this.2⟩
 ·rw[St.get_push] at h
  split at h
  ·rename_i hf
   subst hf
   cases h
   refine⟨fun x hx=>?_,fun v hv=>?_⟩
   ·simp at hx;subst hx
    refine⟨⟨w.heap.size,0,0,cap,sz⟩,by simp[Mu.add],rfl,rfl,Nat.le_refl _,fun i a _ hi ha=>?_,fun _=>⟨hF,by simpa using hlen,fun j hj=>?_⟩⟩
    ·obtain⟨y,hy,hj⟩:=cvos_get hys ha
     exact⟨y,quq hle _ _ hy,by simp[World.cell?_alloc_mark];exact hC i y hj⟩
    ·have hj':j<C.size:=Nat.lt_of_lt_of_le hj hcap
     constructor
     ·simp[World.cell?_alloc_mark,hj']
     ·have h1:=World.frozen?_alloc_mark w C e fz.1 fz.2 j
      simp only[Nat.zero_add]
      rw[h1];exact hfz j hj'
   ·simp only[Mu.add]
    rw[if_neg (by rintro ⟨_,h⟩;omega)]
    exact hnone v
  ·rename_i hf
   have H:=R1.got f b h
   cases b with
   | cells cs vers nv ro=>
    refine⟨fun x hx=>?_,fun v hv=>?_⟩
    ·obtain⟨l,c⟩:=H.1 x hx
     refine⟨l,hle.loc _ _ _ c.mu,c.lo,c.sz,c.hi,fun i a h1 h2 h3=>?_,c.rw⟩
     obtain⟨y,hy,hw⟩:=c.cell i a h1 h2 h3
     exact⟨y,quq hle _ _ hy,hw⟩
    ·simp only[Mu.add]
     rw[if_neg (by rintro ⟨h,_⟩;exact hf h)]
     exact H.2 v hv
   | map es cl=>
    obtain⟨l,es',h1,h2,h3,h4⟩:=H
    exact⟨l,es',hle.loc _ _ _ h1,h2,h3,h4.mono hle⟩
   | iter io=>
    obtain⟨l,ob,h1,h2,h3,h4⟩:=H
    exact⟨l,ob,⟨hle.loc _ _ _ h1.1,h1.2⟩,h2,h3,h4.mono hle⟩
 ·have hrw:∀ g,g≠A.next→(A.push (.cells cs [⟨u0,0,cs.length,sz⟩] (u0+1) false)).Rw g→A.Rw g:=fun g hg ⟨b,hb,hr⟩=>by
   rw[St.get_push,if_neg hg] at hb;exact⟨b,hb,hr⟩
  rcases hof f v l h1 with ⟨rfl,_,rfl⟩|⟨n1,h1⟩<;>rcases hof g u k h2 with ⟨rfl,_,rfl⟩|⟨n2,h2⟩
  ·exact absurd rfl hne
  ·have:=(R.dom _ _ _ h2).2;intro h;simp only at h;omega
  ·have:=(R.dom _ _ _ h1).2;intro h;simp only at h;omega
  ·exact R.apart f v l g u k h1 h2 hne (hrw _ n1 hf)
 ·rcases hof f v l h1 with ⟨rfl,hv0,rfl⟩|⟨n1,h1⟩
  ·rw[hv0]
   intro c e' fz' hc
   have:(w.alloc (.cells C e fz)).heap[w.heap.size]?=some (.cells C e fz):=by
    show (w.heap.push _)[w.heap.size]?=_
    rw[Array.getElem?_push,if_pos rfl]
   rw[this] at hc;cases hc;exact hu
  ·refine R1.unf f v l h1 ?_
   obtain⟨b,hb,hr⟩:=h2
   rw[St.get_push,if_neg n1] at hb
   exact⟨b,hb,hr⟩
 ·rcases hof f v l h1 with ⟨rfl,_,rfl⟩|⟨n1,h1⟩<;>rcases hof _ u k h2 with ⟨e,_,rfl⟩|⟨n2,h2⟩
  ·rfl
  ·exact absurd rfl n2
  ·exact absurd e n1
  ·exact R.same f v l u k h1 h2 he
 ·rcases hof f 0 l h1 with ⟨rfl,_,rfl⟩|⟨n1,h1⟩
  ·rfl
  ·obtain⟨b,hb,hr⟩:=h2
   rw[St.get_push,if_neg n1] at hb
   exact R.orig f l h1 ⟨b,hb,hr⟩

theorem Rel.new_cells (R:Rel F m A w) {cs:List AV} {ys:List Value} (hys:cvos m cs=some ys) {C:Array Value} {e:TypeId} {fz:Nat × Nat} {cap sz:Nat}
  (hC:∀ (j:Nat) (y:Value),ys[j]?=some y→C[j]?=some y) (hcap:cap*sz≤C.size) (hlen:cs.length≤cap*sz) (hu:fz.1=fz.2) :
  Rel F (m.add A.next 0 ⟨w.heap.size,0,0,cap,sz⟩) (A.push (.cells cs [⟨0,0,cs.length,sz⟩] 1 false)) (w.alloc (.cells C e fz))∧m.le (m.add A.next 0 ⟨w.heap.size,0,0,cap,sz⟩):=
 R.new_cellsV 0 hys hC hcap hlen (.inl hu)

theorem heap_setCell_other (w:World) (a:Addr) (v:Value) {c:Nat} (h:c≠a.block):(w.setCell a v).heap[c]?=w.heap[c]?:=by
 unfold World.setCell
 rw[Array.getElem?_modify,if_neg (fun e=>h e.symm)]
theorem qkq (b:Nat):∀ (vs:List Value) (o:Nat) (w:World) {c:Nat},c≠b→(w.setCells b o vs).heap[c]?=w.heap[c]?
 | [],_,_,_,_=>rfl
 | v::r,o,w,c,h=>by rw[World.setCells,qkq b r (o+1) _ h,heap_setCell_other _ _ _ h]
theorem size_setCells (b:Nat):∀ (vs:List Value) (o:Nat) (w:World),(w.setCells b o vs).heap.size=w.heap.size
 | [],_,_=>rfl
 | v::r,o,w=>by rw[World.setCells,size_setCells b r,World.size_setCell]

theorem unfz_setCells {u cb:Nat} (b:Nat):∀ (vs:List Value) (o:Nat) (w:World),Unfz u w cb→Unfz u (w.setCells b o vs) cb
 | [],_,_,h=>h
 | v::r,o,w,h=>by
  rw[World.setCells]
  refine unfz_setCells b r (o+1) _ fun c e fz hc=>?_
  unfold World.setCell at hc
  simp only[Array.getElem?_modify] at hc
  split at hc
  ·simp only[Option.map_eq_some_iff] at hc
   obtain⟨ob,h1,h2⟩:=hc
   cases ob with
   | cells c0 e0 fz0=>
    have:=h c0 e0 fz0 h1
    simp only[Obj.cells.injEq] at h2
    obtain⟨h3,_,rfl⟩:=h2
    have hs:c.size=c0.size:=by rw[←h3];simp
    rw[hs];exact this
   | _=>cases h2
  ·exact h c e fz hc
theorem os_setCells (b:Nat):∀ (vs:List Value) (o:Nat) (w:World),(w.setCells b o vs).os=w.os∧(w.setCells b o vs).output=w.output
 | [],_,_=>⟨rfl,rfl⟩
 | v::r,o,w=>by rw[World.setCells];exact os_setCells b r (o+1) _
theorem rest_setCells {F:Fr} {w:World} (h:w.os=F.os∧w.output=F.out) (b o:Nat) (vs:List Value):(w.setCells b o vs).os=F.os∧(w.setCells b o vs).output=F.out:=by
 rw[(os_setCells b vs o w).1,(os_setCells b vs o w).2];exact h

theorem blkR_other {f:Nat} {b:Blk} {bb o:Nat} {vs:List Value} (H:blkR F m w f b) (hne:∀ v l,m f v=some l→l.cb≠bb):blkR F m (w.setCells bb o vs) f b:=by
 have hcell:∀ cb j,cb≠bb→(w.setCells bb o vs).cell? ⟨cb,j,none⟩=w.cell? ⟨cb,j,none⟩:=fun cb j h=>World.cell?_of_block (qkq bb vs o w h)
 have hfro:∀ cb j,cb≠bb→(w.setCells bb o vs).frozen? ⟨cb,j,none⟩=w.frozen? ⟨cb,j,none⟩:=fun cb j h=>World.frozen?_of_block (qkq bb vs o w h)
 cases b with
 | cells cs vers nv ro=>
  refine⟨fun x hx=>?_,H.2⟩
  obtain⟨l,c⟩:=H.1 x hx
  have hb:=hne _ _ c.mu
  refine⟨l,c.mu,c.lo,c.sz,c.hi,fun i a h1 h2 h3=>?_,fun hr=>?_⟩
  ·rw[hcell _ _ hb];exact c.cell i a h1 h2 h3
  ·obtain⟨h1,h2,h3⟩:=c.rw hr
   exact⟨h1,h2,fun j hj=>by rw[hcell _ _ hb,hfro _ _ hb];exact h3 j hj⟩
 | map es cl=>
  obtain⟨l,es',h1,h2,h3,h4⟩:=H
  exact⟨l,es',h1,by rw[qkq bb vs o w (hne _ _ h1)];exact h2,h3,h4⟩
 | iter io=>
  obtain⟨l,ob,h1,h2,h3,h4⟩:=H
  exact⟨l,ob,h1,by rw[qkq bb vs o w (hne _ _ h1.1)];exact h2,h3,h4⟩

theorem splice_get (cs l:List AV) (o i:Nat) (h:o+l.length≤cs.length):(splice cs o l)[i]?=if o≤i∧i<o+l.length then l[i - o]? else cs[i]?:=by
 unfold splice
 rw[List.getElem?_append,List.length_take,Nat.min_eq_left (by omega)]
 split
 ·rename_i h1
  rw[if_neg (by omega),List.getElem?_take,if_pos h1]
 ·rename_i h1
  rw[List.getElem?_append]
  split
  ·rename_i h2;rw[if_pos (by omega)]
  ·rename_i h2;rw[if_neg (by omega),List.getElem?_drop];congr 1;omega
theorem splice_length (cs l:List AV) (o:Nat) (h:o+l.length≤cs.length):(splice cs o l).length=cs.length:=by
 unfold splice;simp;omega

theorem Rw_put {f g:Nat} {b b':Blk} (hg:A.get f=some b) (hb:b.ro=false) (h:(A.put f b').Rw g):A.Rw g:=by
 obtain⟨c,hc,hr⟩:=h
 rw[St.get_put] at hc
 split at hc
 ·rename_i e;subst e;exact⟨b,hg,hb⟩
 ·exact⟨c,hc,hr⟩

theorem Rel.write (R:Rel F m A w) {p:Pl} {l:List AV} {B:St} (h:A.write p l=some B) {ys:List Value} (hys:cvos m l=some ys) :
  ∃ b o,plc m p=some ⟨b,o,none⟩∧(∀ j,j<ys.length→(w.cell? ⟨b,o+j,none⟩).isSome=true∧w.frozen? ⟨b,o+j,none⟩=false)∧(∀ v∈ys,v.oneCell'=true)∧Rel F m B (w.setCells b o ys):=by
 unfold St.write at h
 split at h
 ·rename_i cs x nv hl
  split at h
  ·rename_i hc
   obtain⟨h1,h2,h3,h4⟩:=hc
   cases h
   obtain⟨k,c,hp⟩:=R.look hl h1
   obtain⟨vers,hg,hx,hv⟩:=look_spec hl
   obtain⟨r1,r2,r3⟩:=c.rw rfl
   have hlen:=qgq hys
   have hin:∀ j,j<ys.length→p.2.2 - x.lo+j<k.cap*k.sz:=fun j hj=>by omega
   refine⟨_,_,hp,fun j hj=>?_,fun v hv=>?_,?_⟩
   ·rw[show k.co+(p.2.2 - x.lo)+j=k.co+(p.2.2 - x.lo+j) by omega];exact r3 _ (hin j hj)
   ·obtain⟨j,hj⟩:=List.mem_iff_getElem?.1 hv
    obtain⟨a,ha,hav⟩:=cvos_get' hys hj
    exact oneCell_of_flat (List.all_eq_true.1 h4 a (List.mem_of_getElem? ha)) hav
   ·refine⟨fun f v l h=>?_,fun f b h=>?_,fun cb o h=>?_,rest_setCells R.rest _ _ _,fun f v l' g u k' q1 q2 hne hf=>?_,fun f v l' h1 h2=>unfz_setCells _ _ _ _ (R.unf f v l' h1 (Rw_put hg rfl h2)),R.same,fun f l' h1 h2=>R.orig f l' h1 (Rw_put hg rfl h2),R.frm⟩
    ·have:=R.dom f v l h;rw[size_setCells];exact this
    ·rw[St.get_put] at h
     split at h
     ·rename_i hf
      subst hf
      cases h
      refine⟨fun y hy=>?_,(R.got _ _ hg).2⟩
      have hyx:y=x:=by simpa using hy
      rw[hyx]
      refine⟨k,c.mu,c.lo,c.sz,by rw[splice_length _ _ _ (by omega)];exact c.hi,fun i a i1 i2 ha=>?_,fun _=>⟨r1,r2,fun j hj=>?_⟩⟩
      ·rw[splice_get _ _ _ _ (by omega)] at ha
       split at ha
       ·rename_i hio
        obtain⟨y,hy,hj⟩:=cvos_get hys ha
        refine⟨y,hy,?_⟩
        have hj':i - p.2.2<ys.length:=by omega
        have:=World.cell?_setCells_in k.cb ys (k.co+(p.2.2 - x.lo)) w (fun j hj=>by
         rw[show k.co+(p.2.2 - x.lo)+j=k.co+(p.2.2 - x.lo+j) by omega];exact (r3 _ (hin j hj)).1) (i - p.2.2) hj'
        rw[show k.co+(p.2.2 - x.lo)+(i - p.2.2)=k.co+(i - x.lo) by omega] at this
        rw[this,←hj,List.getElem?_eq_getElem hj']
       ·rename_i hio
        obtain⟨y,hy,hw⟩:=c.cell i a i1 i2 ha
        refine⟨y,hy,?_⟩
        rw[World.cell?_setCells_out _ _ _ _ _ (fun _ _=>by simp only;omega)]
        exact hw
      ·have:=r3 j hj
       rw[World.frozen?_setCells]
       refine⟨?_,this.2⟩
       by_cases hi:p.2.2 - x.lo≤j∧j<p.2.2 - x.lo+ys.length
       ·have:=World.cell?_setCells_in k.cb ys (k.co+(p.2.2 - x.lo)) w (fun j hj=>by
         rw[show k.co+(p.2.2 - x.lo)+j=k.co+(p.2.2 - x.lo+j) by omega];exact (r3 _ (hin j hj)).1) (j - (p.2.2 - x.lo)) (by omega)
        rw[show k.co+(p.2.2 - x.lo)+(j - (p.2.2 - x.lo))=k.co+j by omega] at this
        rw[this];rfl
       ·rw[World.cell?_setCells_out _ _ _ _ _ (fun _ _=>by simp only;omega)]
        exact this.1
     ·rename_i hf
      refine blkR_other (R.got f b h) fun v l' hm hcb=>?_
      exact R.apart _ _ _ _ _ _ c.mu hm (fun e=>hf e.symm) ⟨_,hg,rfl⟩ hcb.symm
    ·have:=R.keep cb o h
     rw[qkq]
     ·exact this
     ·intro e;subst e;rw[r1] at h;cases h
    ·refine R.apart f v l' g u k' q1 q2 hne ?_
     obtain⟨b,hb,hr⟩:=hf
     rw[St.get_put] at hb
     split at hb
     ·rename_i e;subst e;exact⟨_,hg,rfl⟩
     ·exact⟨b,hb,hr⟩
  ·cases h
 ·cases h

theorem CellsR.fork {f:Nat} {cs cs':List AV} {x:Ver} {l:Loc} {m':Mu} {w':World} {e:Nat} (c:CellsR F m w f cs false x l) (hle:m.le m') (hx:x.hi≤e) (hcs:cs'=cs.take e) (new:List AV)
  (hcell:∀ j v,j<e - x.lo→w.cell? ⟨l.cb,l.co+j,none⟩=some v→w'.cell? ⟨l.cb,l.co+j,none⟩=some v)
  (hrw:∀ j,j<l.cap*l.sz→(w.cell? ⟨l.cb,l.co+j,none⟩).isSome=true∧w.frozen? ⟨l.cb,l.co+j,none⟩=false→(w'.cell? ⟨l.cb,l.co+j,none⟩).isSome=true∧w'.frozen? ⟨l.cb,l.co+j,none⟩=false) :
  CellsR F m' w' f (cs'++new) false x l:=by
 have hh:=c.hi
 refine⟨hle.loc _ _ _ c.mu,c.lo,c.sz,by rw[hcs];simp;omega,fun i a h1 h2 h3=>?_,fun hr=>?_⟩
 ·rw[List.getElem?_append_left (by rw[hcs];simp;omega),hcs,List.getElem?_take,if_pos (by omega)] at h3
  obtain⟨y,hy,hw⟩:=c.cell i a h1 h2 h3
  exact⟨y,quq hle _ _ hy,hcell _ _ (by omega) hw⟩
 ·obtain⟨r1,r2,r3⟩:=c.rw hr
  exact⟨r1,r2,fun j hj=>hrw j hj (r3 j hj)⟩

theorem blkR_mono {m':Mu} {w':World} {f:Nat} {b:Blk} (hle:m.le m') (hnew:∀ v,m f v=none→m' f v=none) (H:blkR F m w f b)
  (hheap:∀ v l,m f v=some l→w'.heap[l.cb]?=w.heap[l.cb]?):blkR F m' w' f b:=by
 cases b with
 | cells cs vers nv ro=>
  refine⟨fun x hx=>?_,fun v hv=>hnew v (H.2 v hv)⟩
  obtain⟨l,c⟩:=H.1 x hx
  have hh:=hheap _ _ c.mu
  refine⟨l,hle.loc _ _ _ c.mu,c.lo,c.sz,c.hi,fun i a h1 h2 h3=>?_,fun hr=>?_⟩
  ·obtain⟨y,hy,hw⟩:=c.cell i a h1 h2 h3
   exact⟨y,quq hle _ _ hy,by rw[World.cell?_of_block hh];exact hw⟩
  ·obtain⟨h1,h2,h3⟩:=c.rw hr
   exact⟨h1,h2,fun j hj=>by rw[World.cell?_of_block hh,World.frozen?_of_block hh];exact h3 j hj⟩
 | map es cl=>
  obtain⟨l,es',h1,h2,h3,h4⟩:=H
  exact⟨l,es',hle.loc _ _ _ h1,by rw[hheap _ _ h1];exact h2,h3,h4.mono hle⟩
 | iter io=>
  obtain⟨l,ob,h1,h2,h3,h4⟩:=H
  exact⟨l,ob,⟨hle.loc _ _ _ h1.1,h1.2⟩,by rw[hheap _ _ h1.1];exact h2,h3,h4.mono hle⟩

theorem Rel.fork_in (R:Rel F m A w) {f v o len n skip size nv:Nat} {cs:List AV} {vers:List Ver} {y:Ver} {k:Loc} {new:List AV} {ys:List Value}
  (hg:A.get f=some (.cells cs vers nv false)) (hy:y∈vers) (hyv:y.v=v) (hk:m f v=some k) (h1:y.lo≤o) (h2:o+len*size≤y.hi) (h3:y.hi≤cs.length)
  (hs:k.sz=size) (hskip:k.lo+skip*k.sz=o) (hroom:skip+(len+n)≤k.cap) (hnew:cvos m new=some ys) (hl:new.length=n*size) (hone:∀ v∈ys,v.oneCell'=true) :
  (∀ j,j<ys.length→(w.cell? ⟨k.cb,k.co+(o - k.lo)+len*size+j,none⟩).isSome=true∧w.frozen? ⟨k.cb,k.co+(o - k.lo)+len*size+j,none⟩=false) ∧
  m.le (m.add f nv ⟨k.cb,k.co+(o - k.lo),o,k.cap - skip,size⟩) ∧
  Rel F (m.add f nv ⟨k.cb,k.co+(o - k.lo),o,k.cap - skip,size⟩)
   (A.put f (.cells (cs.take (o+len*size)++new) (⟨nv,o,o+(len+n)*size,size⟩::vers.filter fun z=>decide (z.hi≤o+len*size)) (nv+1) false))
   (w.setCells k.cb (k.co+(o - k.lo)+len*size) ys):=by
 have H:=R.got _ _ hg
 obtain⟨k',c⟩:=H.1 y hy
 obtain rfl:k'=k:=by have:=c.mu;rw[hyv,hk] at this;cases this;rfl
 have hnone:m f nv=none:=H.2 nv (Nat.le_refl _)
 have hle:=Mu.le_add ⟨k'.cb,k'.co+(o - k'.lo),o,k'.cap - skip,size⟩ hnone
 obtain⟨r1,r2,r3⟩:=c.rw rfl
 have hlen:=qgq hnew
 have hlo:=c.lo
 have hmul:(skip+(len+n))*size≤k'.cap*size:=Nat.mul_le_mul_right _ hroom
 have e1:(skip+(len+n))*size=skip*size+len*size+n*size:=by rw[Nat.add_mul,Nat.add_mul];omega
 have e2:(len+n)*size=len*size+n*size:=Nat.add_mul _ _ _
 rw[hs] at hskip r2 r3
 have hregion:∀ j,j<ys.length→k'.co+(o - k'.lo)+len*size+j=k'.co+(skip*size+len*size+j)∧skip*size+len*size+j<k'.cap*size:=fun j hj=>by
  constructor<;>omega
 have hthere:∀ j,j<ys.length→(w.cell? ⟨k'.cb,k'.co+(o - k'.lo)+len*size+j,none⟩).isSome=true∧w.frozen? ⟨k'.cb,k'.co+(o - k'.lo)+len*size+j,none⟩=false:=fun j hj=>by
  rw[(hregion j hj).1];exact r3 _ (hregion j hj).2
 have hout:∀ j v,j<o+len*size→w.cell? ⟨k'.cb,j+k'.co - k'.lo,none⟩=some v→k'.lo≤j+k'.co→(w.setCells k'.cb (k'.co+(o - k'.lo)+len*size) ys).cell? ⟨k'.cb,j+k'.co - k'.lo,none⟩=some v:=fun j v hj h hge=>by
  rw[World.cell?_setCells_out _ _ _ _ _ (fun _ _=>by simp only;omega)];exact h
 have hrest:∀ a,((w.cell? ⟨k'.cb,a,none⟩).isSome=true∧w.frozen? ⟨k'.cb,a,none⟩=false)→((w.setCells k'.cb (k'.co+(o - k'.lo)+len*size) ys).cell? ⟨k'.cb,a,none⟩).isSome=true∧(w.setCells k'.cb (k'.co+(o - k'.lo)+len*size) ys).frozen? ⟨k'.cb,a,none⟩=false:=fun a h=>by
  rw[World.frozen?_setCells]
  refine⟨?_,h.2⟩
  by_cases hi:k'.co+(o - k'.lo)+len*size≤a∧a<k'.co+(o - k'.lo)+len*size+ys.length
  ·have:=World.cell?_setCells_in k'.cb ys (k'.co+(o - k'.lo)+len*size) w (fun j hj=>(hthere j hj).1) (a - (k'.co+(o - k'.lo)+len*size)) (by omega)
   rw[show k'.co+(o - k'.lo)+len*size+(a - (k'.co+(o - k'.lo)+len*size))=a by omega] at this
   rw[this];rfl
  ·rw[World.cell?_setCells_out _ _ _ _ _ (fun _ _=>by simp only;omega)];exact h.1
 have hadd:∀ g u l,(m.add f nv ⟨k'.cb,k'.co+(o - k'.lo),o,k'.cap - skip,size⟩) g u=some l→(g=f∧u=nv∧l=⟨k'.cb,k'.co+(o - k'.lo),o,k'.cap - skip,size⟩)∨m g u=some l:=fun g u l h=>by
  unfold Mu.add at h
  dsimp only at h
  split at h
  ·rename_i q;cases h;exact .inl ⟨q.1,q.2,rfl⟩
  ·exact .inr h
 refine⟨hthere,hle,⟨fun g u l h=>?_,fun g b h=>?_,fun cb ob h=>?_,rest_setCells R.rest _ _ _,fun g u l g' u' l' q1 q2 hne hf=>?_,fun g u l q1 hf=>?_,fun g u l u' l' q1 q2 he=>?_,fun g l q1 hf=>?_,R.frm⟩⟩
 ·rw[size_setCells]
  rcases hadd g u l h with ⟨rfl,rfl,rfl⟩|h
  ·exact⟨(R.dom _ _ _ hk).1,(R.dom _ _ _ hk).2⟩
  ·exact R.dom _ _ _ h
 ·rw[St.get_put] at h
  split at h
  ·rename_i e;subst e
   cases h
   refine⟨fun x hx=>?_,fun u hu=>?_⟩
   ·rcases List.mem_cons.1 hx with rfl|hx
    ·refine⟨⟨k'.cb,k'.co+(o - k'.lo),o,k'.cap - skip,size⟩,by simp[Mu.add],rfl,rfl,by simp;omega,fun i a i1 i2 ha=>?_,fun _=>⟨r1,?_,fun j hj=>?_⟩⟩
     ·simp only at i1 i2 ⊢
      by_cases hi:i<o+len*size
      ·rw[List.getElem?_append_left (by simp;omega),List.getElem?_take,if_pos hi] at ha
       obtain⟨z,hz,hw⟩:=c.cell i a (by omega) (by omega) ha
       refine⟨z,quq hle _ _ hz,?_⟩
       rw[show k'.co+(o - k'.lo)+(i - o)=i+k'.co - k'.lo by omega]
       exact hout i z hi (by rw[show i+k'.co - k'.lo=k'.co+(i - y.lo) by omega];exact hw) (by omega)
      ·rw[List.getElem?_append_right (by simp;omega)] at ha
       have:(cs.take (o+len*size)).length=o+len*size:=by simp;omega
       rw[this] at ha
       obtain⟨z,hz,hj⟩:=cvos_get hnew ha
       refine⟨z,quq hle _ _ hz,?_⟩
       have hj':i - (o+len*size)<ys.length:=by omega
       have:=World.cell?_setCells_in k'.cb ys (k'.co+(o - k'.lo)+len*size) w (fun j hj=>(hthere j hj).1) (i - (o+len*size)) hj'
       rw[show k'.co+(o - k'.lo)+len*size+(i - (o+len*size))=k'.co+(o - k'.lo)+(i - o) by omega] at this
       rw[this,←hj,List.getElem?_eq_getElem hj']
     ·simp only
      have e3:(k'.cap - skip)*size=k'.cap*size - skip*size:=Nat.sub_mul _ _ _
      omega
     ·simp only at hj ⊢
      have e3:(k'.cap - skip)*size=k'.cap*size - skip*size:=Nat.sub_mul _ _ _
      rw[show k'.co+(o - k'.lo)+j=k'.co+(skip*size+j) by omega]
      exact hrest _ (r3 _ (by omega))
    ·obtain⟨hx1,hx2⟩:=List.mem_filter.1 hx
     have hx3:x.hi≤o+len*size:=of_decide_eq_true hx2
     obtain⟨lx,cx⟩:=H.1 x hx1
     refine⟨lx,cx.fork (e:=o+len*size) hle hx3 rfl new (fun j z hj hz=>?_) (fun j hj hz=>?_)⟩
     ·by_cases hcb:lx.cb=k'.cb
      ·have hal:=R.same _ _ _ _ _ cx.mu hk hcb
       have hxl:=cx.lo
       rw[hcb] at hz ⊢
       have:=hout (j+x.lo) z (by omega) (by rw[show j+x.lo+k'.co - k'.lo=lx.co+j by omega];exact hz) (by omega)
       rw[show j+x.lo+k'.co - k'.lo=lx.co+j by omega] at this
       exact this
      ·rw[World.cell?_of_block (qkq _ _ _ _ hcb)];exact hz
     ·by_cases hcb:lx.cb=k'.cb
      ·rw[hcb] at hz ⊢;exact hrest _ hz
      ·rw[World.cell?_of_block (qkq _ _ _ _ hcb),World.frozen?_of_block (qkq _ _ _ _ hcb)];exact hz
   ·simp only[Mu.add]
    rw[if_neg (by rintro ⟨_,e⟩;omega)]
    exact H.2 u (by omega)
  ·rename_i e
   have Hb:=R.got g b h
   refine blkR_mono hle (fun u hu=>?_) Hb (fun u l hu=>?_)
   ·simp only[Mu.add];rw[if_neg (by rintro ⟨q,_⟩;exact e q)];exact hu
   ·exact qkq _ _ _ _ (fun q=>R.apart f v k' g u l hk hu (fun e'=>e e'.symm) ⟨_,hg,rfl⟩ q.symm)
 ·rw[qkq]
  ·exact R.keep cb ob h
  ·intro q;subst q;rw[r1] at h;cases h
 ·have hf':=Rw_put hg rfl hf
  rcases hadd g u l q1 with ⟨rfl,rfl,rfl⟩|p1<;>rcases hadd g' u' l' q2 with ⟨rfl,rfl,rfl⟩|p2
  ·exact absurd rfl hne
  ·exact fun e=>R.apart _ _ _ _ _ _ hk p2 hne hf' e
  ·have:=R.apart _ _ _ _ _ _ hk p1 (fun e=>hne e.symm) ⟨_,hg,rfl⟩
   exact fun e=>this e.symm
  ·exact R.apart _ _ _ _ _ _ p1 p2 hne hf'
 ·have hf':=Rw_put hg rfl hf
  rcases hadd g u l q1 with ⟨rfl,rfl,rfl⟩|p1
  ·exact unfz_setCells k'.cb ys _ w (Unfz.up (R.unf _ v k' hk hf') (fun e0=>by
    have:=H.2 v (by omega)
    rw[hk] at this;cases this))
  ·exact unfz_setCells _ _ _ _ (R.unf _ _ _ p1 hf')
 ·rcases hadd g u l q1 with ⟨rfl,rfl,rfl⟩|p1<;>rcases hadd _ u' l' q2 with ⟨e,rfl,rfl⟩|p2
  ·rfl
  ·have:=R.same _ _ _ _ _ hk p2 he;simp only;omega
  ·have e':=e;subst e'
   have:=R.same _ _ _ _ _ p1 hk he;simp only;omega
  ·exact R.same _ _ _ _ _ p1 p2 he
 ·have hf':=Rw_put hg rfl hf
  rcases hadd g 0 l q1 with ⟨rfl,h0,rfl⟩|p1
  ·subst h0
   have hy0:m g y.v=none:=H.2 _ (Nat.zero_le _)
   obtain⟨ky,cy⟩:=H.1 y hy
   rw[cy.mu] at hy0
   cases hy0
  ·exact R.orig _ _ p1 hf'

theorem Rel.fork_out (R:Rel F m A w) {f v o len n size nv:Nat} {cs:List AV} {vers:List Ver} {y:Ver} {new:List AV} {ys:List Value}
  (hg:A.get f=some (.cells cs vers nv false)) (hy:y∈vers) (h1:y.lo≤o) (h2:o+len*size≤y.hi) (h3:y.hi≤cs.length)
  (hnew:cvos m new=some ys) (hl:new.length=n*size) {olds:List Value} (holds:cvos m ((cs.drop o).take (len*size))=some olds)
  {C:Array Value} {e:TypeId} {cap:Nat} (hC:∀ (j:Nat) (z:Value),(olds++ys)[j]?=some z→C[j]?=some z) (hcap:cap*size≤C.size) (hfit:len+n≤cap) :
  m.le (m.add f nv ⟨w.heap.size,0,o,cap,size⟩) ∧
  Rel F (m.add f nv ⟨w.heap.size,0,o,cap,size⟩)
   (A.put f (.cells (cs.take (o+len*size)++new) (⟨nv,o,o+(len+n)*size,size⟩::vers.filter fun z=>decide (z.hi≤o+len*size)) (nv+1) false))
   (w.alloc (.cells C e)):=by
 have H:=R.got _ _ hg
 have hnone:m f nv=none:=H.2 nv (Nat.le_refl _)
 have hle:=Mu.le_add ⟨w.heap.size,0,o,cap,size⟩ hnone
 have R1:=R.alloc_other (.cells C e)
 have H1:=R1.got _ _ hg
 have hF:F w.heap.size=none:=by
  cases h:F w.heap.size with
  | none=>rfl
  | some o=>have:=R.keep _ _ h;simp at this
 have hlen:=qgq hnew
 have holen:=qgq holds
 rw[List.length_take,List.length_drop] at holen
 have e2:(len+n)*size=len*size+n*size:=Nat.add_mul _ _ _
 have hcm:(len+n)*size≤cap*size:=Nat.mul_le_mul_right _ hfit
 have hadd:∀ g u l,(m.add f nv ⟨w.heap.size,0,o,cap,size⟩) g u=some l→(g=f∧u=nv∧l=⟨w.heap.size,0,o,cap,size⟩)∨m g u=some l:=fun g u l h=>by
  unfold Mu.add at h
  dsimp only at h
  split at h
  ·rename_i q;cases h;exact .inl ⟨q.1,q.2,rfl⟩
  ·exact .inr h
 have hdom:∀ g u l,m g u=some l→l.cb≠w.heap.size:=fun g u l h=>Nat.ne_of_lt (R.dom _ _ _ h).2
 refine⟨hle,⟨fun g u l h=>?_,fun g b h=>?_,R1.keep,R1.rest,fun g u l g' u' l' q1 q2 hne hf=>?_,fun g u l q1 hf=>?_,fun g u l u' l' q1 q2 he=>?_,fun g l q1 hf=>?_,R.frm⟩⟩
 ·rcases hadd g u l h with ⟨rfl,rfl,rfl⟩|h
  ·have hf:g<A.next:=by
    obtain⟨k,c⟩:=H.1 y hy
    exact (R.dom _ _ _ c.mu).1
   simp;exact hf
  ·exact R1.dom _ _ _ h
 ·rw[St.get_put] at h
  split at h
  ·rename_i e';subst e'
   cases h
   refine⟨fun x hx=>?_,fun u hu=>?_⟩
   ·rcases List.mem_cons.1 hx with rfl|hx
    ·refine⟨⟨w.heap.size,0,o,cap,size⟩,by simp[Mu.add],rfl,rfl,by simp;omega,fun i a i1 i2 ha=>?_,fun _=>⟨hF,by simp only;omega,fun j hj=>?_⟩⟩
     ·simp only at i1 i2 ⊢
      have hgoal:∃ z,cvo m a=some z∧(olds++ys)[i - o]?=some z:=by
       by_cases hi:i<o+len*size
       ·rw[List.getElem?_append_left (by simp;omega),List.getElem?_take,if_pos hi] at ha
        obtain⟨z,hz,hj⟩:=cvos_get holds (j:=i - o) (a:=a) (by rw[List.getElem?_take,if_pos (by omega),List.getElem?_drop,show o+(i - o)=i by omega];exact ha)
        exact⟨z,hz,by rw[List.getElem?_append_left (by omega)];exact hj⟩
       ·rw[List.getElem?_append_right (by simp;omega)] at ha
        have:(cs.take (o+len*size)).length=o+len*size:=by simp;omega
        rw[this] at ha
        obtain⟨z,hz,hj⟩:=cvos_get hnew ha
        exact⟨z,hz,by rw[List.getElem?_append_right (by omega),show i - o - olds.length=i - (o+len*size) by omega];exact hj⟩
      obtain⟨z,hz,hj⟩:=hgoal
      refine⟨z,quq hle _ _ hz,?_⟩
      rw[Nat.zero_add,World.cell?_alloc_mark]
      exact hC _ _ hj
     ·simp only[Nat.zero_add] at hj ⊢
      rw[World.cell?_alloc_mark,World.frozen?_alloc_mark]
      have:j<C.size:=by omega
      simp[this]
    ·obtain⟨hx1,hx2⟩:=List.mem_filter.1 hx
     have hx3:x.hi≤o+len*size:=of_decide_eq_true hx2
     obtain⟨lx,cx⟩:=H1.1 x hx1
     exact⟨lx,cx.fork (e:=o+len*size) hle hx3 rfl new (fun j z _ hz=>hz) (fun j _ hz=>hz)⟩
   ·simp only[Mu.add]
    rw[if_neg (by rintro ⟨_,e⟩;omega)]
    exact H.2 u (by omega)
  ·rename_i e'
   refine blkR_mono hle (fun u hu=>?_) (R1.got g b h) (fun u l hu=>rfl)
   simp only[Mu.add];rw[if_neg (by rintro ⟨q,_⟩;exact e' q)];exact hu
 ·have hf':=Rw_put hg rfl hf
  rcases hadd g u l q1 with ⟨rfl,rfl,rfl⟩|p1<;>rcases hadd g' u' l' q2 with ⟨rfl,rfl,rfl⟩|p2
  ·exact absurd rfl hne
  ·exact fun h=>hdom _ _ _ p2 h.symm
  ·exact hdom _ _ _ p1
  ·exact R.apart _ _ _ _ _ _ p1 p2 hne hf'
 ·have hf':=Rw_put hg rfl hf
  rcases hadd g u l q1 with ⟨rfl,rfl,rfl⟩|p1
  ·intro c e' fz' hc
   have:(w.alloc (.cells C e)).heap[w.heap.size]?=some (.cells C e):=by
    show (w.heap.push _)[w.heap.size]?=_
    rw[Array.getElem?_push,if_pos rfl]
   rw[this] at hc;cases hc;exact .inl rfl
  ·exact R1.unf _ _ _ p1 hf'
 ·rcases hadd g u l q1 with ⟨rfl,rfl,rfl⟩|p1<;>rcases hadd _ u' l' q2 with ⟨e,rfl,rfl⟩|p2
  ·rfl
  ·exact absurd he.symm (hdom _ _ _ p2)
  ·exact absurd he (hdom _ _ _ p1)
  ·exact R.same _ _ _ _ _ p1 p2 he
 ·have hf':=Rw_put hg rfl hf
  rcases hadd g 0 l q1 with ⟨rfl,h0,rfl⟩|p1
  ·subst h0
   rfl
  ·exact R.orig _ _ p1 hf'

end

def slotR (m:Mu) (v:AV) (c:Value):Prop:=v=.bot∨cvo m v=some c
theorem slotR.mono {m m':Mu} (h:m.le m') {v:AV} {c:Value} (s:slotR m v c):slotR m' v c:=s.imp id (quq h _ _)
theorem slotR.of {m:Mu} {v:AV} {c:Value} (h:cvo m v=some c):slotR m v c:=.inr h
theorem slotR.cv {m:Mu} {v:AV} {c:Value} (s:slotR m v c) (h:v≠.bot):cvo m v=some c:=s.resolve_left h

structure EnvR (M0 m:Mu) (n:Nat) (E:Env) (a:Act):Prop where
 tmp:∀ t,t<1000000→slotR m (Env.at E t) (a.tmps.getD t undef)
 glob:∀ g,slotR m (Env.at E (1000000+g)) (.pointer (some ⟨g,0,none⟩))
 size:a.tmps.size=n
 base:M0.le m

theorem EnvR.mono {M0 m m':Mu} (h:m.le m') {n:Nat} {E:Env} {a:Act} (e:EnvR M0 m n E a):EnvR M0 m' n E a:=
 ⟨fun t ht=>(e.tmp t ht).mono h,fun g=>(e.glob g).mono h,e.size,Mu.le_trans e.base h⟩

theorem constFlat_sound {m:Mu} {v:Value} {a:AV} (h:constFlat v=some a):cvo m a=some v:=by
 unfold constFlat at h
 split at h<;>first|(cases h;rfl)|(cases h;simp[cvo])|skip
 all_goals simp at h

theorem mapM_const {m:Mu}:∀ {l:List Value} {r:List AV},l.mapM constFlat=some r→cvos m r=some l
 | [],r,h=>by simp at h;subst h;rfl
 | v::l,r,h=>by
  simp only[List.mapM_cons,Option.bind_eq_bind,Option.bind_eq_some_iff,Option.pure_def,Option.some.injEq] at h
  obtain⟨a,ha,r',hr,rfl⟩:=h
  simp[cvos,constFlat_sound (m:=m) ha,mapM_const (m:=m) hr]

theorem constAV_sound {m:Mu} (v:Value):slotR m (constAV v) v:=by
 have hflat:∀ v:Value,slotR m ((constFlat v).getD .bot) v:=fun v=>by
  cases h:constFlat v with
  | none=>exact .inl rfl
  | some a=>exact .inr (constFlat_sound h)
 unfold constAV
 split
 ·rename_i cs
  cases h:cs.toList.mapM constFlat with
  | none=>exact .inl rfl
  | some l=>exact .inr (by simp[cvo,mapM_const (m:=m) h])
 ·exact hflat _

theorem qcq {M0 m:Mu} {n:Nat} {E:Env} {a:Act} (e:EnvR M0 m n E a) (x:Operand):slotR m (ev E x) (a.eval x):=by
 cases x with
 | tmp t=>
  simp only[ev,Act.eval]
  cases h:Nat.blt t 1000000 with
  | true=>exact e.tmp t (by simpa[Nat.blt_eq] using h)
  | false=>exact .inl rfl
 | const v=>exact constAV_sound v
 | global g=>exact e.glob g
 | func f=>exact .inr (by simp[ev,cvo,cvos,Act.eval])

theorem evs_sound {M0 m:Mu} {n:Nat} {E:Env} {a:Act} (e:EnvR M0 m n E a):∀ (l:List Operand),allKnown (evs E l)=true→cvos m (evs E l)=some (l.map a.eval)
 | [],_=>rfl
 | x::l,h=>by
  have hx:=qcq e x
  have hne:ev E x≠.bot:=by intro hb;simp[evs,hb,allKnown] at h
  have hl:allKnown (evs E l)=true:=by
   simp only[evs] at h
   cases hv:ev E x<;>simp[hv,allKnown] at h<;>first|exact h|exact absurd hv hne
  simp[evs,cvos,hx.cv hne,evs_sound e l hl]

theorem EnvR.put {M0 m:Mu} {n:Nat} {E:Env} {a:Act} (e:EnvR M0 m n E a) {d:Option Nat} (hd:dstOk n d=true) {v:AV} {c:Value} (h:slotR m v c):EnvR M0 m n (Env.put E d v) (a.put d c):=by
 cases d with
 | none=>exact e
 | some d=>
  simp[dstOk] at hd
  refine⟨fun t ht=>?_,fun g=>?_,by simp[Act.put,e.size],e.base⟩
  ·simp only[Env.put,Env.at,T.get_set,Act.put]
   by_cases htd:t=d
   ·subst htd
    rw[if_pos rfl]
    have:t<a.tmps.size:=by rw[e.size];exact hd.1
    simp[this];exact h
   ·rw[if_neg htd]
    have:=e.tmp t ht
    simp only[Env.at] at this
    simpa[Array.getElem?_setIfInBounds_ne (Ne.symm htd)] using this
  ·have:=e.glob g
   simp only[Env.put,Env.at,T.get_set] at this ⊢
   rw[if_neg (by omega)];exact this

section
variable {P:Program} {M0:Mu} {m:Mu} {n:Nat} {E:Env} {a:Act}

theorem cvo_int {x:AV} {k:IntKind} {i:Int} (h:x=.int k i) {c:Value} (s:slotR m x c):c=.int k i:=by
 subst h;have:=s.cv (by simp);simp[cvo] at this;exact this.symm
theorem cvo_bool {x:AV} {b:Bool} (h:x=.bool b) {c:Value} (s:slotR m x c):c=.bool b:=by
 subst h;have:=s.cv (by simp);simp[cvo] at this;exact this.symm
theorem cvo_str {x:AV} {b:List UInt8} (h:x=.str b) {c:Value} (s:slotR m x c):c=.string ⟨b.toArray⟩:=by
 subst h;have:=s.cv (by simp);simp[cvo] at this;exact this.symm

theorem bytesLess_eq:∀ (x y:List UInt8),bytesLess x y=Op.bytesLess x y
 | _,[]=>by unfold bytesLess Op.bytesLess;rfl
 | [],_::_=>rfl
 | a::x,b::y=>by simp only[bytesLess,Op.bytesLess,bytesLess_eq x y]

theorem bin_sound {op:BinOp} {x y r:AV} {cx cy:Value} (t:TypeId) (sx:slotR m x cx) (sy:slotR m y cy) (h:binOf op x y=some r) (w:World) :
  ∃ c,(binOp op t cx cy).run P w=.ok c w∧cvo m r=some c:=by
 unfold binOf at h
 split at h
 ·rename_i k i j l
  have e1:=cvo_int rfl sx;have e2:=cvo_int rfl sy
  subst e1;subst e2
  cases hs:isShift op with
  | true=>
   rw[hs] at h;simp only[cond_true] at h
   unfold shiftInt at h
   split at h
   ·cases h
   ·rename_i hneg
    cases op<;>simp[isShift] at hs<;>simp at h<;>subst h
    all_goals simp[binOp,Op.shift,hneg,cvo]
  | false=>
   rw[hs] at h;simp only[cond_false] at h
   split at h
   ·rename_i hk;subst hk
    cases op<;>simp[isShift] at hs<;>simp only[binInt] at h<;>first
     | (cases h;simp[binOp,Op.intArith,Op.intBits,Op.intCmp,cvo];done)
     | (split at h
        ·cases h
        ·rename_i hz;cases h;simp[binOp,Op.intDiv,hz,cvo])
   ·cases h
 ·rename_i i j
  have e1:=cvo_str rfl sx;have e2:=cvo_str rfl sy
  subst e1;subst e2
  have hl:∀ l:List UInt8,(⟨l.toArray⟩:ByteArray).toList=l:=fun l=>ByteArray.toList_eq _
  cases op<;>simp only[binStr] at h<;>first
   | (cases h;done)
   | (cases h;simp[binOp,Op.stringOp,hl,bytesLess_eq,cvo];done)
   | (split at h
      ·rename_i hlen
       cases h
       refine⟨.string (⟨i.toArray⟩++⟨j.toArray⟩),?_,by rw[ByteArray.mk_append_mk];rfl⟩
       simp only[binOp]
       exact run_string_add_sum w _ _ (by simpa[ByteArray.size] using hlen)
      ·cases h)
 ·cases h

theorem plc_add {p:Pl} {ad:Addr} (h:plc m p=some ad) (k:Nat):plc m (p.1,p.2.1,p.2.2+k)=some (ad.add k)∧ad.spot=none:=by
 unfold plc at *
 dsimp only at *
 split at h
 ·rename_i l hl
  split at h
  ·rename_i hlo
   cases h
   rw[if_pos (by omega),Addr.add_mk]
   exact⟨by congr 2;omega,rfl⟩
  ·cases h
 ·cases h

theorem slice_sound {p:Pl} {po len cap q:Nat} {x:AV} (h:x=.slice (some p) po len cap q) {c:Value} (s:slotR m x c):∃ bs cap',c=.slice (some bs) len cap'∧len≤cap'∧(0<len→plc m p=some bs)∧bs.spot=none:=by
 subst h
 have hx:=s.cv (by simp)
 cases q with
 | zero=>
  simp only[cvo] at hx
  split at hx
  ·simp only[Option.map_eq_some_iff] at hx
   obtain⟨ad,h1,h2⟩:=hx
   exact⟨ad,cap,h2.symm,by assumption,fun _=>h1,(plc_add h1 0).2⟩
  ·cases hx
 | succ q=>
  simp only[cvo] at hx
  split at hx
  ·split at hx
   ·rename_i l hl hc
    simp only[Option.map_eq_some_iff] at hx
    obtain⟨ad,h1,h2⟩:=hx
    exact⟨ad,_,h2.symm,by omega,fun h0=>by rw[if_neg (by omega)] at h1;exact h1,(plc_add h1 0).2⟩
   ·cases hx
  ·cases hx
theorem un_sound {op:UnOp} {x r:AV} {cx:Value} (sx:slotR m x cx) (h:unOf op x=some r) (w:World):∃ c,(Op.unary op cx).run P w=.ok c w∧cvo m r=some c:=by
 unfold unOf at h
 split at h
 ·cases h;have e:=cvo_int rfl sx;subst e;rename_i k z;exact⟨.int k (k.wrap (0 - z)),rfl,rfl⟩
 ·cases h;have e:=cvo_int rfl sx;subst e;exact⟨_,rfl,rfl⟩
 ·cases h;have e:=cvo_bool rfl sx;subst e;exact⟨_,rfl,rfl⟩
 ·cases h

theorem index_sound {k:Nat} {i:AV} {j:Nat} {ci:Value} (s:slotR m i ci) (h:index? k i=some j):∃ kk,ci=.int kk (j:Int)∧j<k:=by
 unfold index? at h
 split at h
 ·split at h
  ·rename_i kk z hz
   cases h
   refine⟨kk,?_,by omega⟩
   rw[cvo_int rfl s]
   congr 1
   omega
  ·cases h
 ·cases h
theorem bound_sound {k:Nat} {i:AV} {j:Nat} {ci:Value} (s:slotR m i ci) (h:bound? k i=some j):∃ kk,ci=.int kk (j:Int)∧j≤k:=by
 unfold bound? at h
 split at h
 ·split at h
  ·rename_i kk z hz
   cases h
   refine⟨kk,?_,by omega⟩
   rw[cvo_int rfl s]
   congr 1
   omega
  ·cases h
 ·cases h
theorem qCq {k:IntKind} {j y:Nat} {code:BoundsCode} (h:j≤y) (w:World):(Instr.sliceBound (.int k (j:Int)) y code).run P w=.ok j w:=by
 have:(0:Int)≤j∧(j:Int)≤y:=by omega
 simp[Instr.sliceBound,asIntOf,this]

theorem ptr_sound {x:AV} {p:Pl} (h:x=.ptr (some p)) {c:Value} (s:slotR m x c):∃ ad,plc m p=some ad∧c=.pointer (some ad):=by
 subst h
 have:=s.cv (by simp)
 simp only[cvo,Option.map_eq_some_iff] at this
 obtain⟨ad,h1,h2⟩:=this
 exact⟨ad,h1,h2.symm⟩
theorem agg_sound {x:AV} {cs:List AV} (h:x=.agg cs) {c:Value} (s:slotR m x c):∃ ys,cvos m cs=some ys∧c=.agg ys.toArray:=by
 subst h
 have:=s.cv (by simp)
 simp only[cvo,Option.map_eq_some_iff] at this
 obtain⟨ys,h1,h2⟩:=this
 exact⟨ys,h1,h2.symm⟩
theorem addr_cvo {p:Pl} {ad:Addr} (h:plc m p=some ad) (k:Nat):cvo m (AV.addr p k)=some (.pointer (some (ad.add k))):=by
 simp[AV.addr,cvo,(plc_add h k).1]

theorem part_sound {t:TypeId} {i:TypeInfo} (hi:P.info? t=some i) {d:TypeDesc} (hd:P.underlying t=some d) {cs:List AV} {ys:List Value} (hc:cvos m cs=some ys) {off:Nat} {r:AV} (h:partOf (isAggB P t) cs off i.size=some r) (w:World) :
  ∃ c,(part t ys.toArray off).run P w=.ok c w∧cvo m r=some c:=by
 unfold partOf at h
 have hlen:=qgq hc
 cases hg:isAggB P t with
 | true=>
  rw[hg] at h;simp only[cond_true] at h
  split at h
  ·rename_i hle
   cases h
   obtain⟨zs,hz⟩:=cvos_drop_take (m:=m) (cs:=cs) (o:=off) (n:=i.size) (fun j a _ _ ha=>by obtain⟨y,hy,_⟩:=cvos_get hc ha;exact⟨y,hy⟩)
   refine⟨.agg (ys.toArray.extract off (off+i.size)),?_,?_⟩
   ·have hagg:(isAgg t).run P w=.ok true w:=by
     unfold isAggB at hg
     rw[hd] at hg
     cases d<;>simp at hg<;>simp[isAgg,run_underlying hd]
    simp[part,hagg,sizeOf,typeInfo,hi]
   ·simp only[cvo,hz,Option.map_some]
    congr 2
    apply Array.ext'
    have hl:=qgq hz
    simp only[List.extract_toArray,List.extract_eq_take_drop]
    apply List.ext_getElem?
    intro j
    rw[show off+i.size - off=i.size by omega,List.getElem?_take]
    split
    ·rename_i hj
     rw[List.getElem?_drop]
     cases e:cs[off+j]? with
     | none=>rw[List.getElem?_eq_none_iff] at e;omega
     | some a=>
      obtain⟨y,hy,h1⟩:=cvos_get hc e
      obtain⟨y',hy',h2⟩:=cvos_get hz (j:=j) (a:=a) (by rw[List.getElem?_take,if_pos hj,List.getElem?_drop];exact e)
      rw[hy] at hy';cases hy';rw[h1,h2]
    ·rename_i hj
     rw[List.getElem?_eq_none_iff,hl,List.length_take];omega
  ·cases h
 | false=>
  rw[hg] at h;simp only[cond_false] at h
  obtain⟨y,hy,hj⟩:=cvos_get hc h
  refine⟨y,?_,hy⟩
  have hagg:(isAgg t).run P w=.ok false w:=by
   unfold isAggB at hg
   rw[hd] at hg
   cases d<;>simp at hg<;>simp[isAgg,run_underlying hd]
  simp[part,hagg,hj]
end
section
variable {P:Program} {M0:Mu} {m:Mu} {n:Nat} {E:Env} {a:Act}

theorem qxq {t:TypeId} {s:Nat} (h:szOf P t=some s):∃ i,P.info? t=some i∧i.size=s:=by
 unfold szOf at h;simpa[Option.map_eq_some_iff] using h

def PureOk (P:Program) (m:Mu) (a:Act) (o:Oper) (v:AV) (w:World):Prop:=∃ c,(execOp a.eval o).run P w=.ok (.value c) w∧slotR m v c

theorem bounds_sound {cap len:Nat} {lo hi mx:Option Operand} {mm h l:Nat} (e:EnvR M0 m n E a) (hm:boundMx (evo E mx) cap=some mm) (hh:boundHi (evo E hi) mm len=some h) (hl:boundLo (evo E lo) h=some l) (hx:¬((evo E mx).isSome&&(evo E hi).isNone)=true) (isSlice:Bool) (w:World) :
  (Instr.sliceBounds isSlice len cap (lo.map a.eval) (hi.map a.eval) (mx.map a.eval)).run P w=.ok (l,h,mm) w∧l≤h∧mm≤cap∧(hi.isSome=true→h≤mm):=by
 have hL:∀ x j,lo=some x→boundLo (evo E (some x)) h=some j→∃ k,a.eval x=.int k (j:Int)∧j≤h:=fun x j _ hj=>bound_sound (qcq e x) hj
 have hH:∀ x j,hi=some x→boundHi (evo E (some x)) mm len=some j→∃ k,a.eval x=.int k (j:Int)∧j≤mm:=fun x j _ hj=>bound_sound (qcq e x) hj
 have hM:∀ x j,mx=some x→boundMx (evo E (some x)) cap=some j→∃ k,a.eval x=.int k (j:Int)∧j≤cap:=fun x j _ hj=>bound_sound (qcq e x) hj
 have hmc:mm≤cap:=by
  cases mx with
  | none=>simp[evo,boundMx] at hm;omega
  | some x=>obtain⟨_,_,q⟩:=hM x mm rfl hm;exact q
 have hhm:hi.isSome=true→h≤mm:=by
  cases hi with
  | none=>simp
  | some x=>obtain⟨_,_,q⟩:=hH x h rfl hh;exact fun _=>q
 have hlh:l≤h:=by
  cases lo with
  | none=>simp[evo,boundLo] at hl;omega
  | some x=>obtain⟨_,_,q⟩:=hL x l rfl hl;exact q
 refine⟨?_,hlh,hmc,hhm⟩
 cases mx with
 | none=>
  simp[evo,boundMx] at hm;subst hm
  cases hi with
  | none=>
   simp[evo,boundHi] at hh;subst hh
   cases lo with
   | none=>simp[evo,boundLo] at hl;subst hl;simp[Instr.sliceBounds]
   | some z=>obtain⟨_,q,_⟩:=hL z l rfl hl;simp[Instr.sliceBounds,q,qCq hlh]
  | some y=>
   obtain⟨_,qh,_⟩:=hH y h rfl hh
   cases lo with
   | none=>simp[evo,boundLo] at hl;subst hl;simp[Instr.sliceBounds,qh,qCq (hhm rfl)]
   | some z=>obtain⟨_,q,_⟩:=hL z l rfl hl;simp[Instr.sliceBounds,q,qh,qCq (hhm rfl),qCq hlh]
 | some x=>
  obtain⟨_,qm,_⟩:=hM x mm rfl hm
  cases hi with
  | none=>simp[evo] at hx
  | some y=>
   obtain⟨_,qh,_⟩:=hH y h rfl hh
   cases lo with
   | none=>simp[evo,boundLo] at hl;subst hl;simp[Instr.sliceBounds,qm,qh,qCq hmc,qCq (hhm rfl)]
   | some z=>obtain⟨_,q,_⟩:=hL z l rfl hl;simp[Instr.sliceBounds,q,qm,qh,qCq hmc,qCq (hhm rfl),qCq hlh]

theorem cells_sound {v:AV} {c:Value} (s:slotR m v c) (hb:v.isBot=false):∃ us,cvos m v.cells=some us∧c.cells=us.toArray:=by
 have hne:v≠.bot:=by intro h;subst h;cases hb
 have hc:=s.cv hne
 have one:v.cells=[v]→c.cells=#[c]→∃ us,cvos m v.cells=some us∧c.cells=us.toArray:=fun h1 h2=>⟨[c],by rw[h1];simp[cvos,hc],by rw[h2]⟩
 cases v with
 | agg l=>obtain⟨us,h1,h2⟩:=agg_sound rfl s;exact⟨us,h1,by rw[h2];rfl⟩
 | bot=>cases hb
 | tuple l=>refine one rfl ?_;simp only[cvo,Option.map_eq_some_iff] at hc;obtain⟨_,_,rfl⟩:=hc;rfl
 | _=>refine one rfl ?_;have:=oneCell_of_flat (m:=m) (by rfl) hc;cases c<;>first|rfl|(simp[Value.oneCell'] at this)

theorem fold_splice (off:Nat):∀ (us:List Value) (k:Nat) (ys:List Value),off+k+us.length≤ys.length →
  (us.zipIdx k).foldl (fun (cs:Array Value) (x:Value × Nat)=>cs.setIfInBounds (off+x.2) x.1) ys.toArray=(ys.take (off+k)++(us++ys.drop (off+k+us.length))).toArray
 | [],k,ys,_=>by simp
 | u::us,k,ys,h=>by
  simp at h
  simp only[List.zipIdx_cons,List.foldl_cons,List.setIfInBounds_toArray]
  rw[fold_splice off us (k+1) _ (by simp;omega)]
  have e1:(ys.set (off+k) u).take (off+(k+1))=ys.take (off+k)++[u]:=by
   rw[List.set_eq_take_append_cons_drop,if_pos (by omega),List.take_append,List.length_take,Nat.min_eq_left (by omega),show off+(k+1) - (off+k)=1 by omega,List.take_of_length_le (by simp;omega)]
   rfl
  have e2:(ys.set (off+k) u).drop (off+(k+1)+us.length)=ys.drop (off+k+(us.length+1)):=by
   rw[List.drop_set_of_lt (by omega)];congr 1;omega
  rw[e1,e2,List.append_assoc]
  rfl

theorem cvos_take:∀ {l:List AV} {ys:List Value},cvos m l=some ys→∀ k,cvos m (l.take k)=some (ys.take k)
 | _,_,_,0=>by simp[cvos]
 | [],ys,h,k+1=>by simp[cvos] at h;subst h;simp[cvos]
 | a::l,ys,h,k+1=>by
  simp only[cvos] at h
  split at h
  ·rename_i y zs hy hz;cases h;simp[cvos,hy,cvos_take hz k]
  ·cases h
theorem cvos_drop:∀ {l:List AV} {ys:List Value},cvos m l=some ys→∀ k,cvos m (l.drop k)=some (ys.drop k)
 | _,_,h,0=>by simpa using h
 | [],ys,h,k+1=>by simp[cvos] at h;subst h;simp[cvos]
 | a::l,ys,h,k+1=>by
  simp only[cvos] at h
  split at h
  ·rename_i y zs hy hz;cases h;simpa using cvos_drop hz k
  ·cases h
def splice' (cs:List Value) (o:Nat) (l:List Value):List Value:=cs.take o++(l++cs.drop (o+l.length))

theorem fill_sound {place:Nat→Option (Nat × Nat)}:∀ {parts:List (Nat × Operand)} {ap:List (Nat × Nat × Operand)} {cells:List AV} {r:List AV} {ys:List Value},
  (∀ (k:Nat) i x,parts[k]?=some (i,x)→∃ o s,ap[k]?=some (o,s,x)∧place i=some (o,s))→ap.length=parts.length→EnvR M0 m n E a→cvos m cells=some ys→fillA cells (evParts E ap)=some r →
  ∃ zs,Instr.fill place ys.toArray (parts.map fun (i,x)=>(i,a.eval x))=some zs.toArray∧cvos m r=some zs
 | [],[],cells,r,ys,_,_,e,hc,h=>by simp[evParts,fillA] at h;subst h;exact⟨ys,rfl,hc⟩
 | [],_::_,_,_,_,_,hl,_,_,_=>by simp at hl
 | _::_,[],_,_,_,_,hl,_,_,_=>by simp at hl
 | (i,x)::parts,(o,s,x')::ap,cells,r,ys,hp,hl,e,hc,h=>by
  obtain⟨o',s',h1,h2⟩:=hp 0 i x rfl
  simp at h1
  obtain⟨rfl,rfl,rfl⟩:=h1
  simp only[evParts,fillA] at h
  split at h
  ·rename_i hcnd
   obtain⟨hb,hsz,hin⟩:=hcnd
   have hlen:=qgq hc
   obtain⟨us,hu,hcell⟩:=cells_sound (qcq e x') hb
   have hul:=qgq hu
   have hsp:cvos m (splice cells o (ev E x').cells)=some (splice' ys o us):=cvos_append (cvos_take hc o) (cvos_append hu (by rw[←hul];exact cvos_drop hc _))
   obtain⟨zs,h3,h4⟩:=fill_sound (fun k i x hk=>hp (k+1) i x hk) (by simpa using hl) e hsp h
   refine⟨zs,?_,h4⟩
   rw[←h3]
   simp only[List.map_cons,Instr.fill,h2,hcell]
   rw[if_neg (by simp;omega)]
   congr 1
   rw[Array.zipIdx_toArray,List.foldl_toArray',fold_splice o us 0 ys (by omega)]
   ·rfl
   ·simp
  ·cases h
theorem fillA_length:∀ {parts:List (Nat × Nat × AV)} {cells r:List AV},fillA cells parts=some r→r.length=cells.length
 | [],cells,r,h=>by simp[fillA] at h;subst h;rfl
 | (o,s,v)::l,cells,r,h=>by
  simp only[fillA] at h
  split at h
  ·rename_i hc
   rw[fillA_length h,splice_length _ _ _ (by omega)]
  ·cases h
end
end Go.AM
