/- Frames one behind the other, cut anywhere: in plain Lean. -/
import Derived.Test.YtlaoookdegmnnaaGreatDoorAmArg
import Derived.Laws.BitsLemmas
import Derived.Test.YtlaoookdegmnnaaGreatDoorHpCode
set_option linter.unusedSimpArgs false
set_option linter.unusedVariables false
set_option linter.unusedSectionVars false
set_option maxRecDepth 100000
namespace Go.AM

theorem snocInd {α:Type} {P:List α→Prop} (h0:P []) (h1:∀ l a,P l→P (l++[a])) (l:List α):P l:=by
 have h:∀ l:List α,P l.reverse:=fun l=>by
  induction l with
  | nil=>exact h0
  | cons a l ih=>rw[List.reverse_cons];exact h1 _ _ ih
 have:=h l.reverse
 rwa [List.reverse_reverse] at this
def beV (l:List UInt8):Nat:=l.foldl (fun n c=>n*256+c.toNat) 0
def beF:Nat→Nat→List UInt8
 | 0,_=>[]
 | f+1,n=>if n=0 then [] else beF f (n / 256)++[UInt8.ofNat (n % 256)]
def beB (n:Nat):List UInt8:=beF n n
theorem beF_more:∀ {f g n:Nat},n≤f→n≤g→beF f n=beF g n
 | 0,0,n,_,_=>rfl
 | 0,g+1,n,h,_=>by obtain rfl:n=0:=by omega
                   simp[beF]
 | f+1,0,n,_,h=>by obtain rfl:n=0:=by omega
                   simp[beF]
 | f+1,g+1,n,h1,h2=>by
  simp only[beF]
  by_cases h:n=0
  ·rw[if_pos h,if_pos h]
  ·rw[if_neg h,if_neg h,beF_more (f:=f) (g:=g) (by omega) (by omega)]
theorem beB_zero:beB 0=[]:=rfl
theorem beB_pos {n:Nat} (h:n≠0):beB n=beB (n / 256)++[UInt8.ofNat (n % 256)]:=by
 unfold beB
 cases n with
 | zero=>exact absurd rfl h
 | succ n=>
  conv=>lhs;rw[beF,if_neg h]
  rw[beF_more (f:=n) (g:=(n+1) / 256) (by omega) (Nat.le_refl _)]
theorem beV_append (l:List UInt8) (c:UInt8):beV (l++[c])=beV l*256+c.toNat:=by simp[beV]
theorem beV_beB (n:Nat):beV (beB n)=n:=by
 induction n using Nat.strongRecOn with
 | ind n ih=>
  by_cases h:n=0
  ·subst h;rfl
  ·rw[beB_pos h,beV_append,ih (n / 256) (by omega)]
   simp
   omega
theorem beB_length (n k:Nat) (h:n<256^k):(beB n).length≤k:=by
 induction k generalizing n with
 | zero=>obtain rfl:n=0:=by simpa using h
         simp[beB_zero]
 | succ k ih=>
  by_cases h0:n=0
  ·subst h0;simp[beB_zero]
  ·rw[beB_pos h0]
   have:n / 256<256^k:=Nat.div_lt_of_lt_mul (by rw[Nat.pow_succ] at h;omega)
   have:=ih _ this
   simp
   omega
theorem beB_head (n:Nat):∀ c,(beB n).head?=some c→c≠0:=by
 induction n using Nat.strongRecOn with
 | ind n ih=>
  intro c hc
  by_cases h:n=0
  ·subst h;cases hc
  ·rw[beB_pos h] at hc
   by_cases h2:n / 256=0
   ·rw[h2,beB_zero] at hc
    simp at hc
    subst hc
    intro h3
    have h4:=congrArg UInt8.toNat h3
    simp at h4
    omega
   ·have hne:beB (n / 256)≠[]:=by rw[beB_pos h2];simp
    refine ih (n / 256) (by omega) c ?_
    cases hb:beB (n / 256) with
    | nil=>exact absurd hb hne
    | cons y ys=>rw[hb] at hc;simpa using hc
theorem beV_pos {l:List UInt8}:(∀ c,l.head?=some c→c≠0)→l≠[]→beV l≠0:=by
 refine snocInd (P:=fun l=>(∀ c,l.head?=some c→c≠0)→l≠[]→beV l≠0) ?_ (fun l c ih=>?_) l
 ·intro _ h;exact absurd rfl h
 ·intro h _
  rw[beV_append]
  cases l with
  | nil=>
   have:=h c rfl
   intro h0
   apply this
   have:c.toNat=0:=by omega
   exact UInt8.toNat_inj.1 this
  | cons x l=>
   have:=ih (fun d hd=>h d (by simpa using hd)) (by simp)
   omega
theorem beB_beV {l:List UInt8}:(∀ c,l.head?=some c→c≠0)→beB (beV l)=l:=by
 refine snocInd (P:=fun l=>(∀ c,l.head?=some c→c≠0)→beB (beV l)=l) ?_ (fun l c ih=>?_) l
 ·intro _;rfl
 ·intro h
  have hp:=beV_pos h (by simp)
  rw[beB_pos hp,beV_append]
  have hc:c.toNat<256:=c.toNat_lt
  have e1:(beV l*256+c.toNat) / 256=beV l:=by omega
  have e2:(beV l*256+c.toNat) % 256=c.toNat:=by omega
  rw[e1,e2]
  have e3:UInt8.ofNat c.toNat=c:=by simp
  rw[e3]
  congr 1
  cases l with
  | nil=>rfl
  | cons x l=>exact ih (fun d hd=>h d (by simpa using hd))
theorem beV_lt (l:List UInt8):beV l<256^l.length:=by
 refine snocInd (P:=fun l=>beV l<256^l.length) ?_ (fun l c ih=>?_) l
 ·simp[beV]
 ·rw[beV_append]
  have hc:c.toNat<256:=c.toNat_lt
  simp only[List.length_append,List.length_cons,List.length_nil,Nat.pow_succ,Nat.zero_add]
  omega

def natB (n:Nat):List UInt8:=UInt8.ofNat (beB n).length::beB n
def natP:List UInt8→Option (Nat × List UInt8)
 | []=>none
 | k::l=>if 8<k.toNat∨l.length<k.toNat∨(l.take k.toNat).head?=some 0 then none else some (beV (l.take k.toNat),l.drop k.toNat)
theorem natP_some {b r:List UInt8} {n:Nat} (h:natP b=some (n,r)):b=natB n++r∧n<18446744073709551616:=by
 cases b with
 | nil=>cases h
 | cons k l=>
  simp only[natP] at h
  split at h
  ·cases h
  ·rename_i hn
   simp only[not_or] at hn
   simp only[Option.some.injEq,Prod.mk.injEq] at h
   obtain⟨rfl,rfl⟩:=h
   have hh:∀ c,(l.take k.toNat).head?=some c→c≠0:=fun c hc h0=>hn.2.2 (by rw[hc,h0])
   have hlen:(l.take k.toNat).length=k.toNat:=by rw[List.length_take];omega
   refine⟨?_,?_⟩
   ·unfold natB
    rw[beB_beV hh,hlen]
    simp
   ·have:=beV_lt (l.take k.toNat)
    rw[hlen] at this
    exact Nat.lt_of_lt_of_le this (Nat.le_trans (Nat.pow_le_pow_right (by decide) (show k.toNat≤8 by omega)) (by decide))
theorem natP_natB {n:Nat} (h:n<18446744073709551616) (r:List UInt8):natP (natB n++r)=some (n,r):=by
 have hl:=beB_length n 8 (by exact h)
 have hk:(UInt8.ofNat (beB n).length).toNat=(beB n).length:=by simp;omega
 unfold natB
 simp only[List.cons_append,natP,hk]
 rw[List.take_left,List.drop_left,if_neg,beV_beB]
 simp only[not_or,List.length_append]
 exact⟨by omega,by omega,fun h0=>beB_head n _ h0 rfl⟩
theorem natB_length {n:Nat} (h:n<18446744073709551616):(natB n).length≤9:=by
 have:=beB_length n 8 (by exact h)
 unfold natB
 simp
 omega

def zag (u:Nat):Int:=if u % 2=1 then -1 - (u / 2:Nat) else (u / 2:Nat)
def zig (n:Int):Nat:=if n<0 then (2*(-1 - n)+1).toNat else (2*n).toNat
theorem zag_zig (n:Int):zag (zig n)=n:=by
 unfold zig zag
 split<;>split<;>omega
theorem zag_ok {u:Nat} (h:u<18446744073709551616):i64ok (zag u):=by
 unfold zag i64ok
 split<;>omega
theorem zig_lt {n:Int} (h:i64ok n):zig n<18446744073709551616:=by
 unfold zig
 unfold i64ok at h
 split<;>omega
def numB (n:Int):List UInt8:=natB (zig n)
def strB (s:List UInt8):List UInt8:=natB s.length++s

abbrev RdS:=Option (List UInt8)
def natS:RdS→Nat × RdS
 | none=>(0,none)
 | some l=>match natP l with
  | some (n,r)=>(n,some r)
  | none=>(0,none)
def numS (s:RdS):Int × RdS:=(zag (natS s).1,(natS s).2)
def strS (most:Nat):RdS→List UInt8 × RdS
 | none=>([],none)
 | some l=>match natP l with
  | some (n,r)=>if most<n∨r.length<n then ([],none) else (r.take n,some (r.drop n))
  | none=>([],none)
theorem natS_lt (s:RdS):(natS s).1<18446744073709551616:=by
 cases s with
 | none=>exact Nat.zero_lt_succ _
 | some b=>
  simp only[natS]
  cases hp:natP b with
  | none=>exact Nat.zero_lt_succ _
  | some x=>obtain⟨n,r⟩:=x;exact (natP_some hp).2
theorem natS_natB {n:Nat} (h:n<18446744073709551616) (r:List UInt8):natS (some (natB n++r))=(n,some r):=by simp only[natS,natP_natB h]
theorem numS_numB {n:Int} (h:i64ok n) (r:List UInt8):numS (some (numB n++r))=(n,some r):=by
 unfold numS numB
 rw[natS_natB (zig_lt h)]
 simp only[zag_zig]
theorem strS_strB {s:List UInt8} {most:Nat} (h:s.length≤most) (h':s.length<18446744073709551616) (r:List UInt8):strS most (some (strB s++r))=(s,some r):=by
 unfold strB
 simp only[strS,List.append_assoc,natP_natB h']
 rw[if_neg (by simp only[List.length_append];omega),List.take_left,List.drop_left]

theorem wrap_un {k:IntKind} (hs:k.signed=false) (x:Int):k.wrap x=x % 2^k.bits:=by simp[IntKind.wrap,hs]
theorem wrap_un_nat {k:IntKind} (hs:k.signed=false) (n:Nat):k.wrap (n:Int)=((n % 2^k.bits:Nat):Int):=by rw[wrap_un hs];simp
theorem qAq {k:IntKind} (hs:k.signed=false) {n:Nat} (h:n<2^k.bits):k.wrap (n:Int)=n:=by rw[wrap_un_nat hs,Nat.mod_eq_of_lt h]
theorem wrap_i64 {x:Int} (h1:-9223372036854775808≤x) (h2:x<9223372036854775808):IntKind.i64.wrap x=x:=by rw[IntKind.wrap_i64];omega
theorem qDq {n:Nat} (h:n<9223372036854775808):IntKind.i64.wrap (n:Int)=n:=wrap_i64 (by omega) (by omega)
theorem wrap_u8_nat (n:Nat):IntKind.u8.wrap (n:Int)=((n % 256:Nat):Int):=by rw[IntKind.wrap_u8];simp
theorem wrap_u32_nat (n:Nat):IntKind.u32.wrap (n:Int)=((n % 4294967296:Nat):Int):=by rw[IntKind.wrap_u32];simp

theorem ofInt_nat (n a:Nat):(BitVec.ofInt n (a:Int)).toNat=a % 2^n:=by simp
section
variable {k:IntKind} {a b:Nat}
theorem bin_xor_un (hs:k.signed=false) (ha:a<2^k.bits) (hb:b<2^k.bits):binOf .xor (.int k a) (.int k b)=some (.int k ((a ^^^ b:Nat):Int)):=by
 have e:binOf .xor (.int k a) (.int k b)=some (.int k (k.wrap (BitVec.ofInt k.bits a ^^^ BitVec.ofInt k.bits b).toNat)):=by simp[binOf,isShift,binInt]
 rw[e,BitVec.toNat_xor,ofInt_nat,ofInt_nat,Nat.mod_eq_of_lt ha,Nat.mod_eq_of_lt hb,qAq hs (Nat.xor_lt_two_pow ha hb)]
theorem bin_and_un (hs:k.signed=false) (ha:a<2^k.bits) (hb:b<2^k.bits):binOf .and (.int k a) (.int k b)=some (.int k ((a &&& b:Nat):Int)):=by
 have e:binOf .and (.int k a) (.int k b)=some (.int k (k.wrap (BitVec.ofInt k.bits a &&& BitVec.ofInt k.bits b).toNat)):=by simp[binOf,isShift,binInt]
 rw[e,BitVec.toNat_and,ofInt_nat,ofInt_nat,Nat.mod_eq_of_lt ha,Nat.mod_eq_of_lt hb,qAq hs (Nat.and_lt_two_pow _ hb)]
theorem bin_or_un (hs:k.signed=false) (ha:a<2^k.bits) (hb:b<2^k.bits):binOf .or (.int k a) (.int k b)=some (.int k ((a ||| b:Nat):Int)):=by
 have e:binOf .or (.int k a) (.int k b)=some (.int k (k.wrap (BitVec.ofInt k.bits a ||| BitVec.ofInt k.bits b).toNat)):=by simp[binOf,isShift,binInt]
 rw[e,BitVec.toNat_or,ofInt_nat,ofInt_nat,Nat.mod_eq_of_lt ha,Nat.mod_eq_of_lt hb,qAq hs (Nat.or_lt_two_pow ha hb)]
theorem bin_or_i64 (ha:a<2^63) (hb:b<2^63):binOf .or (.int .i64 a) (.int .i64 b)=some (.int .i64 ((a ||| b:Nat):Int)):=by
 have e:binOf .or (.int .i64 a) (.int .i64 b)=some (.int .i64 (IntKind.i64.wrap (BitVec.ofInt 64 a ||| BitVec.ofInt 64 b).toNat)):=rfl
 have h:=Nat.or_lt_two_pow ha hb
 rw[e,BitVec.toNat_or,ofInt_nat,ofInt_nat,Nat.mod_eq_of_lt (by omega),Nat.mod_eq_of_lt (by omega),qDq (by omega)]
theorem bin_shr_nat {j:IntKind} {s:Nat} (h:s≤k.bits):binOf .shr (.int k a) (.int j s)=some (.int k ((a / 2^s:Nat):Int)):=by
 have e:binOf .shr (.int k a) (.int j s)=shiftInt .shr k a s:=by simp[binOf,isShift]
 rw[e]
 unfold shiftInt
 rw[if_neg (by omega)]
 dsimp only
 rw[Int.toNat_natCast,Nat.min_eq_left h]
 congr 2
 rw[Int.fdiv_eq_ediv_of_nonneg _ (by exact Int.le_of_lt (Int.pow_pos (by decide)))]
 norm_cast
theorem bin_shl_nat {j:IntKind} {s:Nat} (h:s≤k.bits):binOf .shl (.int k a) (.int j s)=some (.int k (k.wrap ((a*2^s:Nat):Int))):=by
 have e:binOf .shl (.int k a) (.int j s)=shiftInt .shl k a s:=by simp[binOf,isShift]
 rw[e]
 unfold shiftInt
 rw[if_neg (by omega)]
 dsimp only
 rw[Int.toNat_natCast,Nat.min_eq_left h]
 norm_cast
end

def byteV (b:UInt8):AV:=.int .u8 b.toNat
def bytesV (l:List UInt8):List AV:=l.map byteV
theorem textGo_bytes:∀ (l:List UInt8),textGo (bytesV l)=some l
 | []=>rfl
 | b::l=>by
  show (match textGo (bytesV l) with|some s=>some (UInt8.ofNat (Int.toNat (b.toNat:Int))::s)|none=>none)=_
  rw[textGo_bytes l]
  simp
theorem bytesV_flat (l:List UInt8):(bytesV l).all AV.flat=true:=by
 simp[bytesV,byteV,AV.flat]
@[simp] theorem qFq (l:List UInt8):(bytesV l).length=l.length:=by simp[bytesV]
@[simp] theorem qzq (l k:List UInt8):bytesV (l++k)=bytesV l++bytesV k:=by simp[bytesV]
theorem bytesV_drop (l:List UInt8) (n:Nat):(bytesV l).drop n=bytesV (l.drop n):=by simp[bytesV,List.map_drop]
theorem bytesV_take (l:List UInt8) (n:Nat):(bytesV l).take n=bytesV (l.take n):=by simp[bytesV,List.map_take]

abbrev Bs (A:St) (s:AV) (l:List UInt8):Prop:=Sl A 1 s (bytesV l)
abbrev OwnB (lo:Nat) (A:St) (s:AV) (l:List UInt8):Prop:=Own lo A 1 s (bytesV l)
theorem Bs.len {A:St} {s:AV} {l:List UInt8} (h:Bs A s l):s.slen=l.length:=by
 have:=Sl.length h
 simp at this
 omega

theorem Sl.at {A:St} {sz:Nat} {s:AV} {cs:List AV} (h:Sl A sz s cs) {j:Nat} {k:IntKind} (hj:j<s.slen) :
  ∃ p,atSliceV sz s (.int k j)=some (.ptr (some p))∧A.cells p sz=some ((cs.drop (j*sz)).take sz):=by
 cases h with
 | nil po cap q=>simp[AV.slen] at hj
 | @mem f v o po len cap q _ hf hc hq=>
  simp only[AV.slen] at hj
  refine⟨(f,v,o+j*sz),?_,?_⟩
  ·unfold atSliceV
   dsimp only
   rw[show index? len (.int k (j:Int))=some j by simp[index?,hj]]
   rfl
  ·exact cells_sub hc (by rw[←Nat.succ_mul];exact Nat.mul_le_mul_right _ hj)
theorem loadV_one {A:St} {p:Pl} {v:AV} (h:A.cells p 1=some [v]):loadV A 1 false (.ptr (some p))=some v:=by
 simp[loadV,h]
theorem Sl.at_one {A:St} {s:AV} {cs:List AV} (h:Sl A 1 s cs) {j:Nat} {v:AV} (hj:cs[j]?=some v) (k:IntKind) :
  ∃ p,atSliceV 1 s (.int k j)=some (.ptr (some p))∧loadV A 1 false (.ptr (some p))=some v:=by
 have hlt:=(List.getElem?_eq_some_iff.1 hj).1
 obtain⟨p,h1,h2⟩:=h.at (k:=k) (j:=j) (by have:=h.length;simp at this;omega)
 refine⟨p,h1,loadV_one ?_⟩
 rw[h2]
 congr 1
 rw[Nat.mul_one]
 have:=List.getElem?_eq_some_iff.1 hj
 rw[List.drop_eq_getElem_cons hlt]
 simp[this.2]
theorem Sl.lenV {A:St} {sz:Nat} {s:AV} {cs:List AV} (h:Sl A sz s cs):AM.lenV s=some (.int .i64 s.slen):=by
 cases h<;>rfl
theorem Sl.lenV1 {A:St} {s:AV} {cs:List AV} (h:Sl A 1 s cs):AM.lenV s=some (.int .i64 cs.length):=by
 rw[h.lenV,h.length,Nat.mul_one]
theorem Bs.lenV {A:St} {s:AV} {l:List UInt8} (h:Bs A s l):AM.lenV s=some (.int .i64 l.length):=by
 rw[Sl.lenV1 h,qFq]
theorem Bs.text {A:St} {s:AV} {l:List UInt8} (h:Bs A s l):textV A s=some (.str l):=by
 have h:Sl A 1 s (bytesV l):=h
 generalize hl:bytesV l=cs at h
 cases h with
 | nil po cap q=>
  have:l=[]:=by simpa[bytesV] using hl
  subst this
  rfl
 | mem hf hc hq=>
  subst hl
  rw[Nat.mul_one] at hc
  simp[textV,hc,textGo_bytes]
theorem Sl.okSrc {A:St} {sz:Nat} {s:AV} {cs:List AV} (h:Sl A sz s cs):AM.okSrc false s=true:=by
 cases h<;>rfl
theorem Sl.known {A:St} {sz:Nat} {s:AV} {cs:List AV} (h:Sl A sz s cs):AM.known s=some s:=by
 cases h<;>rfl
theorem Sl.allKnown {A:St} {sz:Nat} {s:AV} {cs:List AV} (h:Sl A sz s cs) (l:List AV):AM.allKnown (s::l)=AM.allKnown l:=by
 cases h<;>rfl

theorem nil_test {A:St} {sz:Nat} {s:AV} {cs:List AV} (h:Sl A sz s cs):∃ b,eqV A .nilSlice false s (.slice none 0 0 0 0)=some (.bool b)∧(b=true→cs=[]):=by
 cases h with
 | nil po cap q=>
  by_cases hq:q=0
  ·subst hq;exact⟨true,rfl,fun _=>rfl⟩
  ·exact⟨false,by simp[eqV,eqOf,hq],fun h=>by cases h⟩
 | mem hf hc hq=>exact⟨false,by simp[eqV,eqOf],fun h=>by cases h⟩

theorem qpq {lo:Nat} {A:St} {sz bytes:Nat} {s x:AV} {cs ds:List AV} (hs:Own lo A sz s cs) (hx:Sl A sz x ds) (hlo:lo≤A.next) (hz:sz≠0) (hfl:ds.all AV.flat=true)
  (hb:(s.slen+x.slen)*bytes≤70368744177664) (hb':s.slen+x.slen≤70368744177664) :
  ∃ s' B,appendV A false sz bytes s x=some (s',B)∧s'.slen=s.slen+x.slen∧Own lo B sz s' (cs++ds)∧But A B s∧∀ f,s'.into f=true→s.into f=true∨A.next≤f:=by
 obtain⟨s',B,h1,h2⟩:=own_append hs hx hlo hz hfl hb hb'
 exact⟨s',B,by unfold appendV;rw[hx.okSrc];exact h1,h2⟩

theorem Own.into {lo:Nat} {A:St} {sz:Nat} {s:AV} {cs:List AV} (h:Own lo A sz s cs) {f:Nat} (hf:s.into f=true):lo≤f:=by
 cases h with
 | nil po cap q=>simp[AV.into] at hf
 | mem hlo _ _ _ _ _ _ _=>simp[AV.into] at hf;omega
theorem But.ext {A0 A B:St} {sz:Nat} {s:AV} {cs:List AV} (b:But A B s) (h:A0.Ext A) (o:Own A0.next A sz s cs):A0.Ext B:=
 ⟨Nat.le_trans h.next b.next,fun f hf=>by
  rw[b.get f (Nat.lt_of_lt_of_le hf h.next) (by
   cases hi:s.into f with
   | false=>rfl
   | true=>have:=o.into hi;omega)]
  exact h.get f hf⟩
@[simp] theorem byteV_bot (b:UInt8):(byteV b).isBot=false:=rfl
@[simp] theorem byteV_cells (b:UInt8):(byteV b).cells=[byteV b]:=rfl
@[simp] theorem byteV_known (b:UInt8):known (byteV b)=some (byteV b):=rfl
@[simp] theorem int_bot (k:IntKind) (n:Int):(AV.int k n).isBot=false:=rfl
@[simp] theorem int_cells (k:IntKind) (n:Int):(AV.int k n).cells=[.int k n]:=rfl
@[simp] theorem slice_bot (a:Option Pl) (po len cap q:Nat):(AV.slice a po len cap q).isBot=false:=rfl
@[simp] theorem slice_cells (a:Option Pl) (po len cap q:Nat):(AV.slice a po len cap q).cells=[.slice a po len cap q]:=rfl
theorem Sl.notBot {A:St} {sz:Nat} {s:AV} {cs:List AV} (h:Sl A sz s cs):s.isBot=false:=by cases h<;>rfl
theorem Sl.cells {A:St} {sz:Nat} {s:AV} {cs:List AV} (h:Sl A sz s cs):s.cells=[s]:=by cases h<;>rfl
theorem Sl.flat {A:St} {sz:Nat} {s:AV} {cs:List AV} (h:Sl A sz s cs):s.flat=true:=by cases h<;>rfl
theorem conv_u8 (k:IntKind) (n:Nat):convV .u8 (.int k n)=some (byteV (UInt8.ofNat n)):=by
 rw[qhq,wrap_u8_nat]
 unfold byteV
 simp
@[simp] theorem qnq (a:Option Pl) (po n c q:Nat):(AV.slice a po n c q).slen=n:=rfl
theorem own_built (A:St) {cs:List AV} {n:Nat} (h:cs.length=n):Own A.next (A.make cs 1).2 1 (.slice (some (A.next,0,0)) 0 n n 0) cs:=by
 have:=qtq A (cs:=cs) (sz:=1) (n:=n) (by omega) (Nat.le_refl _) (len:=n) (Nat.le_refl _)
 rwa [List.take_of_length_le (by omega)] at this

theorem Sl.text {A:St} {s:AV} {l:List UInt8} (h:Sl A 1 s (bytesV l)):textV A s=some (.str l):=Bs.text h

@[simp] theorem un_not (b:Bool):unOf .not (.bool b)=some (.bool (!b)):=rfl
theorem Sl.into_lt {A:St} {sz:Nat} {s:AV} {cs:List AV} (h:Sl A sz s cs) {f:Nat} (hf:s.into f=true):f<A.next:=by
 cases h with
 | nil po cap q=>simp[AV.into] at hf
 | mem hf' _ _=>simp[AV.into] at hf;omega

def InAll (F:List St) (lo hi:Nat) (f:St→Option AV) (v:AV):Prop:=hi<F.length∧AV.beq v v=true∧∀ x∈(F.drop lo).take (hi+1 - lo),f x=some v

section
variable (D:Disp) (G0:Env) (fns:Nat→Option AFn) (X:Calls')
def OpsD:List (AOper × Nat × Nat)→List St→(List St→Prop)→Env→St→(Ex→Env→St→Prop)→Prop
 | [],S,C,E,A,Q=>C (S++[A])∧Q .normal E A
 | (o,lo,hi)::l,S,C,E,A,Q=>
  match wantedA E o.guard with
  | some true=>(match o.op.cls with
   | .pure=>(match pureOf E o.op with|some v=>OpsD l (S++[A]) C (Env.put E o.dst v) A Q|none=>False)
   | .read=>(match readOf E A o.op with|some v=>OpsD l (S++[A]) (fun F=>C F∧InAll F lo hi (fun A'=>readOf E A' o.op) v) (Env.put E o.dst v) A Q|none=>False)
   | .new=>(match newOf E o.op with|some (cs,sz,md)=>OpsD l (S++[A]) C (Env.put E o.dst (md.value A.next)) (A.makeV cs sz md.ver).2 Q|none=>False)
   | .eff=>(match effOf E A o.op with|some (v,B)=>OpsD l (S++[A]) C (Env.put E o.dst v) B Q|none=>False)
   | .call=>(match calleeOf D E A o.op with|some (f,args)=>allKnown args=true∧Ev D G0 fns X f args A fun r B=>OpsD l (S++[A]) C (Env.put E o.dst r) B Q|none=>False)
   | .quiet=>False)
  | some false=>OpsD l (S++[A]) C (Env.put E o.dst (.tuple [])) A Q
  | none=>False
end

section
variable {D:Disp} {G0:Env} {fns:Nat→Option AFn} {X:Calls'}

theorem look_read {D:Disp} {G:Calls'} {E:Env} {A:St} {op:AOp} (hc:op.cls=.read):lookOf D G E A op=readOf E A op:=by
 unfold lookOf opOf
 rw[hc]
 dsimp only
 cases readOf E A op<;>rfl
theorem sameIn_of {D:Disp} {G:Calls'} {tr:List (Env × St)} {E:Env} {op:AOp} {v:AV} (hc:op.cls=.read) (hb:AV.beq v v=true):∀ (n q:Nat),q+n≤tr.length→(∀ x∈((tr.map (·.2)).drop q).take n,readOf E x op=some v)→sameIn D G tr E op (some v) q n=true
 | 0,q,_,_=>rfl
 | n+1,q,hl,h=>by
  have hq:q<tr.length:=by omega
  have hg:tr[q]?=some tr[q]:=List.getElem?_eq_getElem hq
  have hd:(tr.map (·.2)).drop q=tr[q].2::(tr.map (·.2)).drop (q+1):=by
   rw[List.drop_eq_getElem_cons (by simpa using hq)]
   simp
  rw[hd,List.take_succ_cons] at h
  have ih:=sameIn_of (D:=D) (G:=G) hc hb n (q+1) (by omega) (fun x hx=>h x (List.mem_cons_of_mem _ hx))
  unfold sameIn
  rw[hg]
  dsimp only
  rw[look_read hc,h _ List.mem_cons_self,ih]
  simp[sameRead,hb]

theorem chkTr_cons {G:Calls'} {tr':List (Env × St)} {E:Env} {A:St} {t:List (Env × St)} {o:AOper} {lo hi:Nat} {l:List (AOper × Nat × Nat)}
  (h1:o.op.cls=.read→wantedA E o.guard=some true→∃ v,readOf E A o.op=some v∧InAll ((tr'++(E,A)::t).map (·.2)) lo hi (fun A'=>readOf E A' o.op) v)
  (hq:o.op.cls=.quiet→wantedA E o.guard≠some true)
  (h2:chkTr D G (tr'++(E,A)::t) (tr'.length+1) l=true):chkTr D G (tr'++(E,A)::t) tr'.length ((o,lo,hi)::l)=true:=by
 unfold chkTr
 rw[h2,Bool.and_true]
 have hg:(tr'++(E,A)::t)[tr'.length]?=some (E,A):=by simp
 rw[hg]
 dsimp only
 cases hr:isLook o.op&&isTrue (wantedA E o.guard) with
 | false=>rfl
 | true=>
  rw[cond_true]
  obtain⟨hr1,hr2⟩:=Bool.and_eq_true_iff.1 hr
  have hw:wantedA E o.guard=some true:=by
   unfold isTrue at hr2
   split at hr2
   ·assumption
   ·cases hr2
  have hc:o.op.cls=.read:=by
   unfold isLook at hr1
   split at hr1
   ·assumption
   ·rename_i h;exact absurd hw (hq h)
   ·cases hr1
  obtain⟨v,hv,hlen,hb,hall⟩:=h1 hc hw
  rw[look_read hc,hv]
  rw[List.length_map] at hlen
  by_cases hlo:lo≤hi
  ·exact sameIn_of hc hb _ _ (by omega) hall
  ·rw[show hi+1 - lo=0 by omega];rfl

theorem opsD_run:∀ (l:List (AOper × Nat × Nat)) (S:List St) (C:List St→Prop) (E:Env) (A:St) (Q:Ex→Env→St→Prop),OpsD D G0 fns X l S C E A Q →
  ∃ k t E' A',runTr D (calls D G0 fns X k) l E A=some t∧lastOf t=some (E',A')∧Q .normal E' A'∧C (S++t.map (·.2))∧∀ G tr',tr'.map (·.2)=S→chkTr D G (tr'++t) tr'.length l=true
 | [],S,C,E,A,Q,h=>⟨0,[(E,A)],E,A,rfl,rfl,h.2,h.1,fun G tr' _=>rfl⟩
 | (o,lo,hi)::l,S,C,E,A,Q,h=>by
  have step:∀ {C':List St→Prop} {v:AV} {B:St} {k0:Nat},wantedA E o.guard=some true→(∀ k,k0≤k→opOf D (calls D G0 fns X k) E A o.op=some (v,B))→OpsD D G0 fns X l (S++[A]) C' (Env.put E o.dst v) B Q →
    ∃ k t E' A',runTr D (calls D G0 fns X k) ((o,lo,hi)::l) E A=some ((E,A)::t)∧lastOf ((E,A)::t)=some (E',A')∧Q .normal E' A'∧C' (S++((E,A)::t).map (·.2))∧∀ G tr',tr'.map (·.2)=S→chkTr D G (tr'++(E,A)::t) (tr'.length+1) l=true:=by
   intro C' v B k0 hw hop hl
   obtain⟨k,t,E',A',h1,h2,h3,h4,h5⟩:=opsD_run l _ _ _ _ _ hl
   refine⟨max k0 k,t,E',A',?_,?_,h3,by simpa using h4,fun G tr' ht=>?_⟩
   ·simp only[runTr,hw,hop _ (Nat.le_max_left _ _)]
    rw[runTr_le (calls_le (Nat.le_max_right k0 k)) h1]
   ·cases t with
    | nil=>cases h2
    | cons y t=>exact h2
   ·have:=h5 G (tr'++[(E,A)]) (by simp[ht])
    simpa using this
  unfold OpsD at h
  split at h
  ·rename_i hw
   have hnq:o.op.cls≠.quiet:=fun hcq=>by rw[hcq] at h;exact h
   have fin:∀ {C':List St→Prop},(∃ k t E' A',runTr D (calls D G0 fns X k) ((o,lo,hi)::l) E A=some ((E,A)::t)∧lastOf ((E,A)::t)=some (E',A')∧Q .normal E' A'∧C' (S++((E,A)::t).map (·.2))∧∀ G tr',tr'.map (·.2)=S→chkTr D G (tr'++(E,A)::t) (tr'.length+1) l=true) →
     (∀ F,C' F→C F)→(o.op.cls=.read→∀ F,C' F→∃ v,readOf E A o.op=some v∧InAll F lo hi (fun A'=>readOf E A' o.op) v) →
     ∃ k t E' A',runTr D (calls D G0 fns X k) ((o,lo,hi)::l) E A=some t∧lastOf t=some (E',A')∧Q .normal E' A'∧C (S++t.map (·.2))∧∀ G tr',tr'.map (·.2)=S→chkTr D G (tr'++t) tr'.length ((o,lo,hi)::l)=true:=by
    rintro C' ⟨k,t,E',A',h1,h2,h3,h4,h5⟩ hC hr
    refine⟨k,(E,A)::t,E',A',h1,h2,h3,hC _ h4,fun G tr' ht=>chkTr_cons (fun hc _=>?_) (fun h _=>hnq h) (h5 G tr' ht)⟩
    rw[List.map_append,ht]
    exact hr hc _ h4
   split at h
   ·rename_i hc
    split at h
    ·rename_i v hv
     exact fin (step (k0:=0) hw (fun k _=>by simp only[opOf,hc,hv]) h) (fun _ x=>x) (fun hr=>by rw[hc] at hr;cases hr)
    ·exact h.elim
   ·rename_i hc
    split at h
    ·rename_i v hv
     exact fin (step (k0:=0) hw (fun k _=>by simp only[opOf,hc,hv]) h) (fun _ x=>x.1) (fun _ F x=>⟨v,hv,x.2⟩)
    ·exact h.elim
   ·rename_i hc
    split at h
    ·rename_i cs sz md hv
     exact fin (step (k0:=0) (v:=md.value A.next) (B:=(A.makeV cs sz md.ver).2) hw (fun k _=>by simp only[opOf,hc,hv];rfl) h) (fun _ x=>x) (fun hr=>by rw[hc] at hr;cases hr)
    ·exact h.elim
   ·rename_i hc
    split at h
    ·rename_i v B hv
     exact fin (step (k0:=0) hw (fun k _=>by simp only[opOf,hc,hv]) h) (fun _ x=>x) (fun hr=>by rw[hc] at hr;cases hr)
    ·exact h.elim
   ·rename_i hc
    split at h
    ·rename_i f args hv
     obtain⟨hk,k0,r,B,h1,h2⟩:=h
     exact fin (step (k0:=k0) hw (fun k hk0=>by simp only[opOf,hc,hv,hk,cond_true];exact calls_le hk0 _ _ _ _ h1) h2) (fun _ x=>x) (fun hr=>by rw[hc] at hr;cases hr)
    ·exact h.elim
   ·exact h.elim
  ·rename_i hw
   obtain⟨k,t,E',A',h1,h2,h3,h4,h5⟩:=opsD_run l _ _ _ _ _ h
   refine⟨k,(E,A)::t,E',A',by simp only[runTr,hw,h1],?_,h3,by simpa using h4,fun G tr' ht=>chkTr_cons (fun _ hw'=>by rw[hw] at hw';cases hw') (fun _ hw'=>by rw[hw] at hw';cases hw') ?_⟩
   ·cases t with
    | nil=>cases h2
    | cons y t=>exact h2
   ·have:=h5 G (tr'++[(E,A)]) (by simp[ht])
    simpa using this
  ·exact h.elim

theorem Wp.draws {l:List (AOper × Nat × Nat)} {E:Env} {A:St} {Q:Ex→Env→St→Prop} (h:OpsD D G0 fns X l [] (fun _=>True) E A Q):Wp D G0 fns X (.draws l) E A Q:=by
 obtain⟨k,t,E',A',h1,h2,h3,h4,h5⟩:=opsD_run l _ _ _ _ _ h
 have h5:=h5 (calls D G0 fns X k) [] rfl
 simp only[List.nil_append,List.length_nil] at h5
 exact⟨k,.normal,E',A',by simp only[interp,h1,h5,h2,cond_true],h3⟩
end
inductive Held (p:Prop):Prop
 | mk (h:p):Held p
theorem held_eq (p:Prop):Held p=p:=propext ⟨fun ⟨h⟩=>h,Held.mk⟩
section
variable (D:Disp) (G0:Env) (fns:Nat→Option AFn) (X:Calls')
def contVD (o:Option AV) (d:Option Nat) (l:List (AOper × Nat × Nat)) (S:List St) (C:List St→Prop) (E:Env) (A:St) (Q:Ex→Env→St→Prop):Prop:=
 match o with
 | some v=>OpsD D G0 fns X l (S++[A]) C (Env.put E d v) A Q
 | none=>False
def contRD (f:St→Option AV) (o:Option AV) (lo hi:Nat) (d:Option Nat) (l:List (AOper × Nat × Nat)) (S:List St) (C:List St→Prop) (E:Env) (A:St) (Q:Ex→Env→St→Prop):Prop:=
 match o with
 | some v=>OpsD D G0 fns X l (S++[A]) (fun F=>C F∧InAll F lo hi f v) (Env.put E d v) A Q
 | none=>False
def contND (o:Option (List AV × Nat × Made)) (d:Option Nat) (l:List (AOper × Nat × Nat)) (S:List St) (C:List St→Prop) (E:Env) (A:St) (Q:Ex→Env→St→Prop):Prop:=
 match o with
 | some (cs,sz,md)=>OpsD D G0 fns X l (S++[A]) C (Env.put E d (md.value A.next)) (A.makeV cs sz md.ver).2 Q
 | none=>False
def contPD (o:Option (AV × St)) (d:Option Nat) (l:List (AOper × Nat × Nat)) (S:List St) (C:List St→Prop) (E:Env) (A:St) (Q:Ex→Env→St→Prop):Prop:=
 match o with
 | some (v,B)=>OpsD D G0 fns X l (S++[A]) C (Env.put E d v) B Q
 | none=>False
def contKD (d:Option Nat) (l:List (AOper × Nat × Nat)) (S:List St) (C:List St→Prop) (E:Env) (A:St) (Q:Ex→Env→St→Prop) (r:AV) (B:St):Prop:=Held (OpsD D G0 fns X l (S++[A]) C (Env.put E d r) B Q)
def contGD (v:AV) (b:Bool) (o:AOper) (lo hi:Nat) (l:List (AOper × Nat × Nat)) (S:List St) (C:List St→Prop) (E:Env) (A:St) (Q:Ex→Env→St→Prop):Prop:=
 match v with
 | .bool c=>if c=b then OpsD D G0 fns X ((⟨o.dst,o.op,none⟩,lo,hi)::l) S C E A Q else OpsD D G0 fns X l (S++[A]) C (Env.put E o.dst (.tuple [])) A Q
 | .tuple []=>OpsD D G0 fns X l (S++[A]) C (Env.put E o.dst (.tuple [])) A Q
 | _=>False
end
section
variable {D:Disp} {G0:Env} {fns:Nat→Option AFn} {X:Calls'} {d:Option Nat} {lo hi:Nat} {l:List (AOper × Nat × Nat)} {S:List St} {C:List St→Prop} {E:Env} {A:St} {Q:Ex→Env→St→Prop}
@[simp] theorem contVD_some (v:AV):contVD D G0 fns X (some v) d l S C E A Q=OpsD D G0 fns X l (S++[A]) C (Env.put E d v) A Q:=rfl
@[simp] theorem contRD_some (f:St→Option AV) (v:AV):contRD D G0 fns X f (some v) lo hi d l S C E A Q=OpsD D G0 fns X l (S++[A]) (fun F=>C F∧InAll F lo hi f v) (Env.put E d v) A Q:=rfl
@[simp] theorem contND_some (cs:List AV) (sz:Nat) (md:Made):contND D G0 fns X (some (cs,sz,md)) d l S C E A Q=OpsD D G0 fns X l (S++[A]) C (Env.put E d (md.value A.next)) (A.makeV cs sz md.ver).2 Q:=rfl
@[simp] theorem contPD_some (v:AV) (B:St):contPD D G0 fns X (some (v,B)) d l S C E A Q=OpsD D G0 fns X l (S++[A]) C (Env.put E d v) B Q:=rfl
@[simp] theorem contKD_eq (r:AV) (B:St):contKD D G0 fns X d l S C E A Q r B=OpsD D G0 fns X l (S++[A]) C (Env.put E d r) B Q:=held_eq _
@[simp] theorem contGD_bool (c b:Bool) (o:AOper):contGD D G0 fns X (.bool c) b o lo hi l S C E A Q=if c=b then OpsD D G0 fns X ((⟨o.dst,o.op,none⟩,lo,hi)::l) S C E A Q else OpsD D G0 fns X l (S++[A]) C (Env.put E o.dst (.tuple [])) A Q:=rfl
@[simp] theorem contGD_none (b:Bool) (o:AOper):contGD D G0 fns X (.tuple []) b o lo hi l S C E A Q=OpsD D G0 fns X l (S++[A]) C (Env.put E o.dst (.tuple [])) A Q:=rfl
@[simp] theorem opsD_nil:OpsD D G0 fns X [] S C E A Q=(C (S++[A])∧Q .normal E A):=rfl
end
section
variable {D:Disp} {G0:Env} {fns:Nat→Option AFn} {X:Calls'}
theorem opsD_pure {op:AOp} (hc:op.cls=.pure) (d:Option Nat) (lo hi:Nat) (l:List (AOper × Nat × Nat)) (S:List St) (C:List St→Prop) (E:Env) (A:St) (Q:Ex→Env→St→Prop):OpsD D G0 fns X ((⟨d,op,none⟩,lo,hi)::l) S C E A Q=contVD D G0 fns X (pureOf E op) d l S C E A Q:=by
 conv=>lhs;unfold OpsD
 simp only[wantedA,hc]
 rfl
theorem opsD_read {op:AOp} (hc:op.cls=.read) (d:Option Nat) (lo hi:Nat) (l:List (AOper × Nat × Nat)) (S:List St) (C:List St→Prop) (E:Env) (A:St) (Q:Ex→Env→St→Prop):OpsD D G0 fns X ((⟨d,op,none⟩,lo,hi)::l) S C E A Q=contRD D G0 fns X (fun A'=>readOf E A' op) (readOf E A op) lo hi d l S C E A Q:=by
 conv=>lhs;unfold OpsD
 simp only[wantedA,hc]
 rfl
theorem opsD_new {op:AOp} (hc:op.cls=.new) (d:Option Nat) (lo hi:Nat) (l:List (AOper × Nat × Nat)) (S:List St) (C:List St→Prop) (E:Env) (A:St) (Q:Ex→Env→St→Prop):OpsD D G0 fns X ((⟨d,op,none⟩,lo,hi)::l) S C E A Q=contND D G0 fns X (newOf E op) d l S C E A Q:=by
 conv=>lhs;unfold OpsD
 simp only[wantedA,hc]
 rfl
theorem opsD_eff {op:AOp} (hc:op.cls=.eff) (d:Option Nat) (lo hi:Nat) (l:List (AOper × Nat × Nat)) (S:List St) (C:List St→Prop) (E:Env) (A:St) (Q:Ex→Env→St→Prop):OpsD D G0 fns X ((⟨d,op,none⟩,lo,hi)::l) S C E A Q=contPD D G0 fns X (effOf E A op) d l S C E A Q:=by
 conv=>lhs;unfold OpsD
 simp only[wantedA,hc]
 rfl
theorem qiq (f:FuncId) (args:List Operand) (d:Option Nat) (lo hi:Nat) (l:List (AOper × Nat × Nat)) (S:List St) (C:List St→Prop) (E:Env) (A:St) (Q:Ex→Env→St→Prop) (hk:allKnown (evs E args)=true):OpsD D G0 fns X ((⟨d,.call f args,none⟩,lo,hi)::l) S C E A Q=Ev D G0 fns X f (evs E args) A (contKD D G0 fns X d l S C E A Q):=by
 conv=>lhs;unfold OpsD
 simp only[wantedA,AOp.cls,calleeOf,hk,true_and]
 congr 1
 funext r B
 exact (held_eq _).symm
@[simp] theorem opsD_guard (t:Nat) (b:Bool) (op:AOp) (d:Option Nat) (lo hi:Nat) (l:List (AOper × Nat × Nat)) (S:List St) (C:List St→Prop) (E:Env) (A:St) (Q:Ex→Env→St→Prop) (ht:t<1000000):OpsD D G0 fns X ((⟨d,op,some (t,b)⟩,lo,hi)::l) S C E A Q=contGD D G0 fns X (Env.at E t) b ⟨d,op,some (t,b)⟩ lo hi l S C E A Q:=by
 have hw:wantedA E (some (t,b))=match Env.at E t with|.bool c=>some (c == b)|.tuple []=>some false|_=>none:=by
  unfold wantedA
  dsimp only
  rw[show Nat.blt t 1000000=true from by rw[Nat.blt_eq];exact ht]
  rfl
 unfold contGD
 split
 ·rename_i c hc
  rw[hc] at hw
  dsimp only at hw
  by_cases hb:c=b
  ·rw[if_pos hb]
   subst hb
   rw[beq_self_eq_true] at hw
   conv=>lhs;unfold OpsD
   conv=>rhs;unfold OpsD
   simp only[hw,show wantedA E none=some true from rfl]
  ·rw[if_neg hb]
   have hb':(c == b)=false:=by simpa using hb
   rw[hb'] at hw
   conv=>lhs;unfold OpsD
   simp only[hw]
 ·rename_i hc
  rw[hc] at hw
  dsimp only at hw
  conv=>lhs;unfold OpsD
  simp only[hw]
 ·rename_i hno hno2
  have hw':wantedA E (some (t,b))=none:=by
   rw[hw]
   split
   ·rename_i c hc;exact (hno c hc).elim
   ·rename_i hc;exact (hno2 hc).elim
   ·rfl
  conv=>lhs;unfold OpsD
  simp only[hw']
@[simp] theorem opsD_mv (x:Operand) (d:Option Nat) (l0 h0:Nat) (l:List (AOper × Nat × Nat)) (S:List St) (C:List St→Prop) (E:Env) (A:St) (Q:Ex→Env→St→Prop):OpsD D G0 fns X ((⟨d,.mv x,none⟩,l0,h0)::l) S C E A Q=contVD D G0 fns X (some (ev E x)) d l S C E A Q:=by rw[opsD_pure rfl];try rfl
@[simp] theorem opsD_pick (c a b:Operand) (d:Option Nat) (l0 h0:Nat) (l:List (AOper × Nat × Nat)) (S:List St) (C:List St→Prop) (E:Env) (A:St) (Q:Ex→Env→St→Prop):OpsD D G0 fns X ((⟨d,.pick c a b,none⟩,l0,h0)::l) S C E A Q=contVD D G0 fns X (pickV (ev E c) (ev E a) (ev E b)) d l S C E A Q:=by
 rw[opsD_pure rfl]
 congr 1
 show (match ev E c with|.bool t=>some (ev E (bif t then a else b))|_=>none)=_
 unfold pickV
 cases ev E c<;>try rfl
 rename_i t
 cases t<;>rfl
@[simp] theorem opsD_bin (o:BinOp) (x y:Operand) (d:Option Nat) (l0 h0:Nat) (l:List (AOper × Nat × Nat)) (S:List St) (C:List St→Prop) (E:Env) (A:St) (Q:Ex→Env→St→Prop):OpsD D G0 fns X ((⟨d,.bin o x y,none⟩,l0,h0)::l) S C E A Q=contVD D G0 fns X (binOf o (ev E x) (ev E y)) d l S C E A Q:=by rw[opsD_pure rfl];try rfl
@[simp] theorem opsD_conv (k:IntKind) (x:Operand) (d:Option Nat) (l0 h0:Nat) (l:List (AOper × Nat × Nat)) (S:List St) (C:List St→Prop) (E:Env) (A:St) (Q:Ex→Env→St→Prop):OpsD D G0 fns X ((⟨d,.conv k x,none⟩,l0,h0)::l) S C E A Q=contVD D G0 fns X (convV k (ev E x)) d l S C E A Q:=by rw[opsD_pure rfl];try rfl
@[simp] theorem opsD_extract (t:Operand) (i:Nat) (d:Option Nat) (l0 h0:Nat) (l:List (AOper × Nat × Nat)) (S:List St) (C:List St→Prop) (E:Env) (A:St) (Q:Ex→Env→St→Prop):OpsD D G0 fns X ((⟨d,.extract t i,none⟩,l0,h0)::l) S C E A Q=contVD D G0 fns X (extractV i (ev E t)) d l S C E A Q:=by rw[opsD_pure rfl];try rfl
@[simp] theorem opsD_nilCheck (x:Operand) (d:Option Nat) (l0 h0:Nat) (l:List (AOper × Nat × Nat)) (S:List St) (C:List St→Prop) (E:Env) (A:St) (Q:Ex→Env→St→Prop):OpsD D G0 fns X ((⟨d,.nilCheck x,none⟩,l0,h0)::l) S C E A Q=contVD D G0 fns X (nilCheckV (ev E x)) d l S C E A Q:=by rw[opsD_pure rfl];try rfl
@[simp] theorem opsD_fieldAddr (off:Nat) (x:Operand) (d:Option Nat) (l0 h0:Nat) (l:List (AOper × Nat × Nat)) (S:List St) (C:List St→Prop) (E:Env) (A:St) (Q:Ex→Env→St→Prop):OpsD D G0 fns X ((⟨d,.fieldAddr off x,none⟩,l0,h0)::l) S C E A Q=contVD D G0 fns X (fieldAddrV off (ev E x)) d l S C E A Q:=by rw[opsD_pure rfl];try rfl
@[simp] theorem opsD_atSlice (size:Nat) (x i:Operand) (d:Option Nat) (l0 h0:Nat) (l:List (AOper × Nat × Nat)) (S:List St) (C:List St→Prop) (E:Env) (A:St) (Q:Ex→Env→St→Prop):OpsD D G0 fns X ((⟨d,.atSlice size x i,none⟩,l0,h0)::l) S C E A Q=contVD D G0 fns X (atSliceV size (ev E x) (ev E i)) d l S C E A Q:=by rw[opsD_pure rfl];try rfl
@[simp] theorem opsD_cutSlice (size:Nat) (x:Operand) (lo hi mx:Option Operand) (d:Option Nat) (l0 h0:Nat) (l:List (AOper × Nat × Nat)) (S:List St) (C:List St→Prop) (E:Env) (A:St) (Q:Ex→Env→St→Prop):OpsD D G0 fns X ((⟨d,.cutSlice size x lo hi mx,none⟩,l0,h0)::l) S C E A Q=contVD D G0 fns X (cutSliceOf size (ev E x) (evo E lo) (evo E hi) (evo E mx)) d l S C E A Q:=by rw[opsD_pure rfl];try rfl
@[simp] theorem opsD_build (zero:List AV) (parts:List (Nat × Nat × Operand)) (d:Option Nat) (l0 h0:Nat) (l:List (AOper × Nat × Nat)) (S:List St) (C:List St→Prop) (E:Env) (A:St) (Q:Ex→Env→St→Prop):OpsD D G0 fns X ((⟨d,.build zero parts,none⟩,l0,h0)::l) S C E A Q=contVD D G0 fns X (aggV (fillA zero (evParts E parts))) d l S C E A Q:=by rw[opsD_pure rfl];try rfl
@[simp] theorem opsD_len (x:Operand) (d:Option Nat) (l0 h0:Nat) (l:List (AOper × Nat × Nat)) (S:List St) (C:List St→Prop) (E:Env) (A:St) (Q:Ex→Env→St→Prop):OpsD D G0 fns X ((⟨d,.len x,none⟩,l0,h0)::l) S C E A Q=contVD D G0 fns X (lenV (ev E x)) d l S C E A Q:=by rw[opsD_pure rfl];try rfl
@[simp] theorem opsD_minmax (isMax:Bool) (xs:List Operand) (d:Option Nat) (l0 h0:Nat) (l:List (AOper × Nat × Nat)) (S:List St) (C:List St→Prop) (E:Env) (A:St) (Q:Ex→Env→St→Prop):OpsD D G0 fns X ((⟨d,.minmax isMax xs,none⟩,l0,h0)::l) S C E A Q=contVD D G0 fns X (pureOf E (.minmax isMax xs)) d l S C E A Q:=by rw[opsD_pure rfl];try rfl
@[simp] theorem opsD_buildSlice (n size:Nat) (cells:List AV) (parts:List (Nat × Nat × Operand)) (d:Option Nat) (l0 h0:Nat) (l:List (AOper × Nat × Nat)) (S:List St) (C:List St→Prop) (E:Env) (A:St) (Q:Ex→Env→St→Prop):OpsD D G0 fns X ((⟨d,.buildSlice n size cells parts,none⟩,l0,h0)::l) S C E A Q=contND D G0 fns X (builtV n size (fillA cells (evParts E parts))) d l S C E A Q:=by rw[opsD_new rfl];try rfl
@[simp] theorem opsD_eq (k:EqK) (neg:Bool) (x y:Operand) (d:Option Nat) (l0 h0:Nat) (l:List (AOper × Nat × Nat)) (S:List St) (C:List St→Prop) (E:Env) (A:St) (Q:Ex→Env→St→Prop):OpsD D G0 fns X ((⟨d,.eq k neg x y,none⟩,l0,h0)::l) S C E A Q=contRD D G0 fns X (fun A'=>(eqV A' k neg (ev E x) (ev E y))) (eqV A k neg (ev E x) (ev E y)) l0 h0 d l S C E A Q:=by rw[opsD_read rfl];try rfl
@[simp] theorem opsD_load (n:Nat) (agg:Bool) (a:Operand) (d:Option Nat) (l0 h0:Nat) (l:List (AOper × Nat × Nat)) (S:List St) (C:List St→Prop) (E:Env) (A:St) (Q:Ex→Env→St→Prop):OpsD D G0 fns X ((⟨d,.load n agg a,none⟩,l0,h0)::l) S C E A Q=contRD D G0 fns X (fun A'=>(loadV A' n agg (ev E a))) (loadV A n agg (ev E a)) l0 h0 d l S C E A Q:=by rw[opsD_read rfl];try rfl
@[simp] theorem opsD_store (n:Nat) (a x:Operand) (d:Option Nat) (l0 h0:Nat) (l:List (AOper × Nat × Nat)) (S:List St) (C:List St→Prop) (E:Env) (A:St) (Q:Ex→Env→St→Prop):OpsD D G0 fns X ((⟨d,.store n a x,none⟩,l0,h0)::l) S C E A Q=contPD D G0 fns X (storeV A n (ev E a) (ev E x)) d l S C E A Q:=by rw[opsD_eff rfl];try rfl
@[simp] theorem opsD_append (str:Bool) (size bytes:Nat) (s x:Operand) (d:Option Nat) (l0 h0:Nat) (l:List (AOper × Nat × Nat)) (S:List St) (C:List St→Prop) (E:Env) (A:St) (Q:Ex→Env→St→Prop):OpsD D G0 fns X ((⟨d,.append str size bytes s x,none⟩,l0,h0)::l) S C E A Q=contPD D G0 fns X (appendV A str size bytes (ev E s) (ev E x)) d l S C E A Q:=by rw[opsD_eff rfl];try rfl
@[simp] theorem opsD_mapPut (kd:KK) (mp k x:Operand) (d:Option Nat) (l0 h0:Nat) (l:List (AOper × Nat × Nat)) (S:List St) (C:List St→Prop) (E:Env) (A:St) (Q:Ex→Env→St→Prop):OpsD D G0 fns X ((⟨d,.mapPut kd mp k x,none⟩,l0,h0)::l) S C E A Q=contPD D G0 fns X (effOf E A (.mapPut kd mp k x)) d l S C E A Q:=by rw[opsD_eff rfl];try rfl
end

structure KeyEnc {α:Type} [DecidableEq α] (kd:KK) (enc:α→AV):Prop where
 ok:∀ a,keyOk kd (enc a)=true
 same:∀ a b,keySame (enc a) (enc b)=some (decide (a=b))
theorem keyEnc_int (k:IntKind):KeyEnc (.int k) (fun i:Int=>AV.int k i):=
 ⟨fun a=>by simp[keyOk],fun a b=>by
  simp only[keySame,if_true]
  congr 1⟩
theorem keyEnc_str:KeyEnc .str AV.str:=
 ⟨fun a=>rfl,fun a b=>by
  simp only[keySame]
  congr 1
  rw[Bool.eq_iff_iff]
  simp⟩

section
variable {α:Type} [DecidableEq α] {δ:Type}

def assoc (k:α):List (α × δ)→Option δ
 | []=>none
 | (x,v)::l=>if x=k then some v else assoc k l
def putA (k:α) (v:δ):List (α × δ)→List (α × δ)
 | []=>[(k,v)]
 | (x,u)::l=>if x=k then (k,v)::l else (x,u)::putA k v l
def delA (k:α):List (α × δ)→List (α × δ)
 | []=>[]
 | (x,u)::l=>if x=k then l else (x,u)::delA k l
def keysA (l:List (α × δ)):List α:=l.map (·.1)
@[simp] theorem assoc_nil (k:α):assoc k ([]:List (α × δ))=none:=rfl
@[simp] theorem keysA_nil:keysA ([]:List (α × δ))=[]:=rfl
@[simp] theorem qyq (x:α × δ) (l:List (α × δ)):keysA (x::l)=x.1::keysA l:=rfl

theorem assoc_none {k:α}:∀ {l:List (α × δ)},assoc k l=none↔k∉keysA l
 | []=>by simp
 | (x,v)::l=>by
  simp only[assoc,qyq,List.mem_cons,not_or]
  by_cases h:x=k
  ·simp[h]
  ·rw[if_neg h,assoc_none]
   exact⟨fun g=>⟨fun e=>h e.symm,g⟩,fun g=>g.2⟩
theorem assoc_mem {k:α} {v:δ}:∀ {l:List (α × δ)},assoc k l=some v→(k,v)∈l
 | [],h=>by cases h
 | (x,u)::l,h=>by
  simp only[assoc] at h
  split at h
  ·rename_i e;cases h;subst e;exact List.mem_cons_self
  ·exact List.mem_cons_of_mem _ (assoc_mem h)
theorem assoc_some_iff {k:α} {l:List (α × δ)}:(assoc k l).isSome=true↔k∈keysA l:=by
 cases h:assoc k l with
 | none=>simp[assoc_none.1 h]
 | some v=>simp;exact List.mem_map.2 ⟨_,assoc_mem h,rfl⟩
@[simp] theorem assoc_put (k k':α) (v:δ):∀ l:List (α × δ),assoc k' (putA k v l)=if k'=k then some v else assoc k' l
 | []=>by
  simp only[putA,assoc]
  by_cases h:k'=k
  ·subst h;simp
  ·rw[if_neg (fun e=>h e.symm),if_neg h]
 | (x,u)::l=>by
  simp only[putA]
  by_cases hx:x=k
  ·rw[if_pos hx]
   simp only[assoc]
   by_cases h:k'=k
   ·subst h;simp
   ·rw[if_neg (fun e=>h e.symm),if_neg h,if_neg (fun e=>h (by rw[←e,hx]))]
  ·rw[if_neg hx]
   simp only[assoc]
   rw[assoc_put k k' v l]
   by_cases h:x=k'
   ·subst h;rw[if_pos rfl,if_neg hx,if_pos rfl]
   ·rw[if_neg h,if_neg h]
theorem keysA_put (k:α) (v:δ):∀ l:List (α × δ),keysA (putA k v l)=if k∈keysA l then keysA l else keysA l++[k]
 | []=>by simp[putA]
 | (x,u)::l=>by
  simp only[putA]
  by_cases hx:x=k
  ·rw[if_pos hx]
   subst hx
   simp
  ·rw[if_neg hx]
   simp only[qyq,keysA_put k v l,List.mem_cons]
   by_cases h:k∈keysA l
   ·rw[if_pos h,if_pos (.inr h)]
   ·rw[if_neg h,if_neg (by rintro (e|e);exact hx e.symm;exact h e)];rfl
theorem mem_keysA_put {k k':α} {v:δ} {l:List (α × δ)}:k'∈keysA (putA k v l)↔k'=k∨k'∈keysA l:=by
 rw[keysA_put]
 split
 ·rename_i h
  constructor
  ·exact .inr
  ·rintro (rfl|h');exact h;exact h'
 ·simp[or_comm]
theorem nodup_put {k:α} {v:δ} {l:List (α × δ)} (h:(keysA l).Nodup):(keysA (putA k v l)).Nodup:=by
 rw[keysA_put]
 split
 ·exact h
 ·rename_i hn
  rw[List.nodup_append]
  refine⟨h,by simp,fun a ha b hb=>?_⟩
  simp at hb
  subst hb
  rintro rfl
  exact hn ha
theorem length_put (k:α) (v:δ) (l:List (α × δ)):(putA k v l).length=if k∈keysA l then l.length else l.length+1:=by
 have h:(keysA (putA k v l)).length=(putA k v l).length:=by simp[keysA]
 rw[←h,keysA_put]
 split<;>simp[keysA]
theorem delA_of_not_mem {k:α}:∀ {l:List (α × δ)},k∉keysA l→delA k l=l
 | [],_=>rfl
 | (x,u)::l,h=>by
  rw[qyq,List.mem_cons,not_or] at h
  simp only[delA]
  rw[if_neg (fun e=>h.1 e.symm),delA_of_not_mem h.2]

def ValsR {β:Type} (R:β→δ→Prop):List (α × β)→List (α × δ)→Prop
 | [],[]=>True
 | x::l,y::r=>x.1=y.1∧R x.2 y.2∧ValsR R l r
 | _,_=>False
section
variable {β:Type} {R:β→δ→Prop}
theorem ValsR.keys:∀ {l:List (α × β)} {r:List (α × δ)},ValsR R l r→keysA l=keysA r
 | [],[],_=>rfl
 | x::l,y::r,⟨h1,_,h3⟩=>by rw[qyq,qyq,h1,ValsR.keys h3]
 | [],_::_,h=>h.elim
 | _::_,[],h=>h.elim
theorem ValsR.length {l:List (α × β)} {r:List (α × δ)} (h:ValsR R l r):l.length=r.length:=by
 have:=congrArg List.length h.keys
 simpa[keysA] using this
theorem ValsR.mono {R':β→δ→Prop}:∀ {l:List (α × β)} {r:List (α × δ)},ValsR R l r→(∀ x∈l,∀ d,R x.2 d→R' x.2 d)→ValsR R' l r
 | [],[],_,_=>trivial
 | x::l,y::r,⟨h1,h2,h3⟩,h=>⟨h1,h x List.mem_cons_self _ h2,ValsR.mono h3 fun z hz=>h z (List.mem_cons_of_mem _ hz)⟩
 | [],_::_,h,_=>h.elim
 | _::_,[],h,_=>h.elim
theorem ValsR.assoc {k:α}:∀ {l:List (α × β)} {r:List (α × δ)},ValsR R l r→(∀ v,AM.assoc k l=some v→∃ d,AM.assoc k r=some d∧R v d)∧(AM.assoc k l=none→AM.assoc k r=none)
 | [],[],_=>by simp
 | (x,v)::l,(y,d)::r,⟨h1,h2,h3⟩=>by
  simp only at h1
  subst h1
  simp only[AM.assoc]
  by_cases h:x=k
  ·rw[if_pos h,if_pos h]
   exact⟨fun u hu=>by cases hu;exact⟨d,rfl,h2⟩,fun hu=>by cases hu⟩
  ·rw[if_neg h,if_neg h];exact ValsR.assoc h3
 | [],_::_,h=>h.elim
 | _::_,[],h=>h.elim
theorem ValsR.put {k:α} {v:β} {d:δ} (hv:R v d):∀ {l:List (α × β)} {r:List (α × δ)},ValsR R l r→ValsR R (putA k v l) (putA k d r)
 | [],[],_=>⟨rfl,hv,trivial⟩
 | (x,u)::l,(y,e)::r,⟨h1,h2,h3⟩=>by
  simp only at h1
  subst h1
  simp only[putA]
  by_cases h:x=k
  ·rw[if_pos h,if_pos h];exact⟨rfl,hv,h3⟩
  ·rw[if_neg h,if_neg h];exact⟨rfl,h2,ValsR.put hv h3⟩
 | [],_::_,h=>h.elim
 | _::_,[],h=>h.elim
theorem ValsR.del {k:α}:∀ {l:List (α × β)} {r:List (α × δ)},ValsR R l r→ValsR R (delA k l) (delA k r)
 | [],[],_=>trivial
 | (x,u)::l,(y,e)::r,⟨h1,h2,h3⟩=>by
  simp only at h1
  subst h1
  simp only[delA]
  by_cases h:x=k
  ·rw[if_pos h,if_pos h];exact h3
  ·rw[if_neg h,if_neg h];exact⟨rfl,h2,ValsR.del h3⟩
 | [],_::_,h=>h.elim
 | _::_,[],h=>h.elim
end

def entC (enc:α→AV) (l:List (α × AV × Nat)):List (AV × AV × Nat):=l.map fun x=>(enc x.1,x.2.1,x.2.2)
structure MapE (enc:α→AV) (A:St) (f:Nat) (l:List (α × AV × Nat)) (clock:Nat):Prop where
 lt:f<A.next
 get:A.get f=some (.map (entC enc l) clock)
 keys:(keysA l).Nodup
 stamps:l.Pairwise fun a b=>a.2.2<b.2.2
 below:∀ x∈l,x.2.2<clock

variable {kd:KK} {enc:α→AV}
theorem mapFind_none (he:KeyEnc kd enc) {k:α}:∀ {l:List (α × AV × Nat)} (i:Nat),k∉keysA l→mapFind (enc k) (entC enc l) i=some none
 | [],_,_=>rfl
 | x::l,i,h=>by
  rw[qyq,List.mem_cons,not_or] at h
  show mapFind (enc k) ((enc x.1,x.2.1,x.2.2)::entC enc l) i=_
  unfold mapFind
  rw[he.same,decide_eq_false h.1]
  exact mapFind_none he (i+1) h.2
theorem mapFind_some (he:KeyEnc kd enc) {k:α} {v:AV} {b:Nat} {c:List (α × AV × Nat)}:∀ {a:List (α × AV × Nat)} (i:Nat),k∉keysA a→mapFind (enc k) (entC enc (a++(k,v,b)::c)) i=some (some (i+a.length,v,b))
 | [],i,_=>by
  show mapFind (enc k) ((enc k,v,b)::entC enc c) i=_
  unfold mapFind
  rw[he.same,decide_eq_true rfl]
  rfl
 | x::a,i,h=>by
  rw[qyq,List.mem_cons,not_or] at h
  show mapFind (enc k) ((enc x.1,x.2.1,x.2.2)::entC enc (a++(k,v,b)::c)) i=_
  unfold mapFind
  rw[he.same,decide_eq_false h.1]
  dsimp only
  rw[mapFind_some he (i+1) h.2,List.length_cons]
  congr 3
  omega
theorem split_key {k:α}:∀ {l:List (α × δ)},k∈keysA l→∃ a v c,l=a++(k,v)::c∧k∉keysA a∧assoc k l=some v
 | [],h=>by cases h
 | (x,u)::l,h=>by
  by_cases hx:x=k
  ·subst hx
   exact⟨[],u,l,rfl,by simp,by simp[assoc]⟩
  ·rw[qyq,List.mem_cons] at h
   obtain⟨a,v,c,rfl,h2,h3⟩:=split_key (h.resolve_left fun e=>hx e.symm)
   refine⟨(x,u)::a,v,c,rfl,?_,?_⟩
   ·rw[qyq,List.mem_cons,not_or];exact⟨fun e=>hx e.symm,h2⟩
   ·simp only[assoc];rw[if_neg hx];exact h3
theorem putA_split {k:α} {v v':δ} {a c:List (α × δ)} (h:k∉keysA a):putA k v' (a++(k,v)::c)=a++(k,v')::c:=by
 induction a with
 | nil=>simp[putA]
 | cons x a ih=>
  rw[qyq,List.mem_cons,not_or] at h
  rw[List.cons_append,putA,if_neg (fun e=>h.1 e.symm),ih h.2];rfl
theorem putA_new {k:α} {v:δ}:∀ {l:List (α × δ)},k∉keysA l→putA k v l=l++[(k,v)]
 | [],_=>rfl
 | x::l,h=>by
  rw[qyq,List.mem_cons,not_or] at h
  rw[putA,if_neg (fun e=>h.1 e.symm),putA_new h.2];rfl
theorem delA_split {k:α} {v:δ} {a c:List (α × δ)} (h:k∉keysA a):delA k (a++(k,v)::c)=a++c:=by
 induction a with
 | nil=>simp[delA]
 | cons x a ih=>
  rw[qyq,List.mem_cons,not_or] at h
  rw[List.cons_append,delA,if_neg (fun e=>h.1 e.symm),ih h.2];rfl
def valsA (l:List (α × AV × Nat)):List (α × AV):=l.map fun x=>(x.1,x.2.1)
@[simp] theorem keysA_vals (l:List (α × AV × Nat)):keysA (valsA l)=keysA l:=by simp[keysA,valsA]
theorem assoc_vals (k:α):∀ l:List (α × AV × Nat),assoc k (valsA l)=(assoc k l).map (·.1)
 | []=>rfl
 | (x,v,b)::l=>by
  show assoc k ((x,v)::valsA l)=_
  simp only[assoc]
  split
  ·rfl
  ·exact assoc_vals k l
theorem vals_append (a b:List (α × AV × Nat)):valsA (a++b)=valsA a++valsA b:=by simp[valsA]

theorem modifyM {α:Type} (f:α→α) (x:α) (c:List α):∀ a:List α,(a++x::c).modify a.length f=a++f x::c
 | []=>by simp[List.modify]
 | e::a=>by simp[modifyM f x c a]
theorem MapE.find (he:KeyEnc kd enc) {A:St} {f:Nat} {l:List (α × AV × Nat)} {c:Nat} (h:MapE enc A f l c) (k:α) :
  (assoc k (valsA l)=none∧k∉keysA l∧mapFind (enc k) (entC enc l) 0=some none)∨∃ a v b d,assoc k (valsA l)=some v∧l=a++(k,v,b)::d∧k∉keysA a∧mapFind (enc k) (entC enc l) 0=some (some (a.length,v,b)):=by
 by_cases hk:k∈keysA l
 ·obtain⟨a,⟨v,b⟩,d,rfl,h2,h3⟩:=split_key hk
  refine .inr ⟨a,v,b,d,by rw[assoc_vals,h3];rfl,rfl,h2,?_⟩
  have:=mapFind_some he (v:=v) (b:=b) (c:=d) 0 h2
  rwa [Nat.zero_add] at this
 ·exact .inl ⟨assoc_none.2 (by simpa using hk),hk,mapFind_none he 0 hk⟩
theorem MapE.lookup (he:KeyEnc kd enc) {A:St} {f:Nat} {l:List (α × AV × Nat)} {c:Nat} (h:MapE enc A f l c) {E:Env} {mp x:Operand} {k:α} (hm:ev E mp=.map (some f)) (hx:ev E x=enc k) (z:AV) (ok:Bool) :
  readOf E A (.lookup kd z ok mp x)=some (match assoc k (valsA l) with
   | some v=>bif ok then .tuple [v,.bool true] else v
   | none=>bif ok then .tuple [z,.bool false] else z):=by
 simp only[readOf,hx,he.ok,cond_true,hm,h.get]
 rcases h.find he k with ⟨h1,_,h2⟩|⟨a,v,b,d,h1,_,_,h2⟩
 ·rw[h1,h2]
 ·rw[h1,h2]
theorem MapE.len {A:St} {f:Nat} {l:List (α × AV × Nat)} {c:Nat} (h:MapE enc A f l c) {E:Env} {mp:Operand} (hm:ev E mp=.map (some f)):readOf E A (.lenMap mp)=some (.int .i64 l.length):=by
 simp only[readOf,hm,h.get]
 simp[entC]
theorem MapE.put (he:KeyEnc kd enc) {A:St} {f:Nat} {l:List (α × AV × Nat)} {c:Nat} (h:MapE enc A f l c) {E:Env} {mp x y:Operand} {k:α} {v:AV} (hm:ev E mp=.map (some f)) (hx:ev E x=enc k) (hy:ev E y=v) (hv:v≠.bot) :
  ∃ l' c',effOf E A (.mapPut kd mp x y)=some (.bot,A.put f (.map (entC enc l') c'))∧valsA l'=putA k v (valsA l)∧MapE enc (A.put f (.map (entC enc l') c')) f l' c':=by
 have hb:effOf E A (.mapPut kd mp x y)=match mapSet (enc k) v (entC enc l) c with|some b=>some (.bot,A.put f b)|none=>none:=by
  simp only[effOf,hx,he.ok,cond_true,hm,h.get,hy]
  cases v<;>first|rfl|exact absurd rfl hv
 have hget:∀ b,(A.put f b).get f=some b:=fun b=>by rw[St.get_put,if_pos rfl]
 rcases h.find he k with ⟨h1,h2,h3⟩|⟨a,u,b,d,h1,rfl,h2,h3⟩
 ·refine⟨l++[(k,v,c)],c+1,?_,?_,h.lt,hget _,?_,?_,fun z hz=>?_⟩
  ·rw[hb]
   unfold mapSet
   rw[h3]
   simp[entC]
  ·rw[vals_append,putA_new (by simpa using h2)];rfl
  ·show (keysA (l++[(k,v,c)])).Nodup
   simp only[keysA,List.map_append,List.map_cons,List.map_nil]
   rw[List.nodup_append]
   refine⟨h.keys,by simp,fun a ha b hb=>?_⟩
   simp at hb
   subst hb
   rintro rfl
   exact h2 ha
  ·rw[List.pairwise_append]
   exact⟨h.stamps,by simp,fun a ha b hb=>by rw[List.mem_singleton] at hb;subst hb;exact h.below a ha⟩
  ·rcases List.mem_append.1 hz with hz|hz
   ·exact Nat.lt_succ_of_lt (h.below z hz)
   ·rw[List.mem_singleton] at hz;subst hz;exact Nat.lt_succ_self c
 ·refine⟨a++(k,v,b)::d,c,?_,?_,h.lt,hget _,?_,?_,fun z hz=>?_⟩
  ·rw[hb]
   unfold mapSet
   rw[h3]
   dsimp only
   congr 4
   unfold setVal entC
   rw[List.map_append,List.map_cons,List.map_append,List.map_cons]
   have:=modifyM (fun e:AV × AV × Nat=>(e.1,v,e.2.2)) (enc k,u,b) (d.map fun x=>(enc x.1,x.2.1,x.2.2)) (a.map fun x=>(enc x.1,x.2.1,x.2.2))
   rw[List.length_map] at this
   rw[this]
  ·rw[vals_append,vals_append]
   exact (putA_split (v:=u) (v':=v) (c:=valsA d) (by simpa using h2)).symm
  ·have:=h.keys;simpa[keysA] using this
  ·have:=h.stamps;simp only[List.pairwise_append,List.pairwise_cons] at this ⊢
   refine⟨this.1,this.2.1,fun x hx y hy=>?_⟩
   rcases List.mem_cons.1 hy with rfl|hy
   ·exact this.2.2 x hx (k,u,b) List.mem_cons_self
   ·exact this.2.2 x hx y (List.mem_cons_of_mem _ hy)
  ·rcases List.mem_append.1 hz with hz|hz
   ·exact h.below z (List.mem_append_left _ hz)
   ·rcases List.mem_cons.1 hz with rfl|hz
    ·exact h.below (k,u,b) (by simp)
    ·exact h.below z (by simp[hz])
theorem MapE.del (he:KeyEnc kd enc) {A:St} {f:Nat} {l:List (α × AV × Nat)} {c:Nat} (h:MapE enc A f l c) {E:Env} {mp x:Operand} {k:α} (hm:ev E mp=.map (some f)) (hx:ev E x=enc k) :
  ∃ l',effOf E A (.mapDel kd mp x)=some (.tuple [],A.put f (.map (entC enc l') c))∧valsA l'=delA k (valsA l)∧MapE enc (A.put f (.map (entC enc l') c)) f l' c:=by
 have hb:effOf E A (.mapDel kd mp x)=match mapCut (enc k) (entC enc l) c with|some b=>some (.tuple [],A.put f b)|none=>none:=by
  simp only[effOf,hx,he.ok,cond_true,hm,h.get]
  rfl
 have hget:∀ b,(A.put f b).get f=some b:=fun b=>by rw[St.get_put,if_pos rfl]
 rcases h.find he k with ⟨h1,h2,h3⟩|⟨a,u,b,d,h1,rfl,h2,h3⟩
 ·refine⟨l,?_,by rw[delA_of_not_mem (by simpa using h2)],h.lt,hget _,h.keys,h.stamps,h.below⟩
  rw[hb]
  unfold mapCut
  rw[h3]
 ·have hs:=h.stamps
  have hk:=h.keys
  simp only[List.pairwise_append,List.pairwise_cons] at hs
  refine⟨a++d,?_,?_,h.lt,hget _,?_,?_,fun z hz=>?_⟩
  ·rw[hb]
   unfold mapCut
   rw[h3]
   dsimp only
   congr 4
   unfold entC
   rw[List.map_append,List.map_cons,List.map_append]
   have:=List.eraseIdx_append_of_length_le (l:=a.map fun x=>(enc x.1,x.2.1,x.2.2)) (k:=a.length) (by simp) ((enc k,u,b)::d.map fun x=>(enc x.1,x.2.1,x.2.2))
   rw[this]
   simp
  ·rw[vals_append,vals_append]
   exact (delA_split (v:=u) (c:=valsA d) (by simpa using h2)).symm
  ·simp only[keysA,List.map_append,List.map_cons] at hk ⊢
   rw[List.nodup_append] at hk ⊢
   exact⟨hk.1,(List.nodup_cons.1 hk.2.1).2,fun x hx y hy=>hk.2.2 x hx y (List.mem_cons_of_mem _ hy)⟩
  ·rw[List.pairwise_append]
   exact⟨hs.1,hs.2.1.2,fun x hx y hy=>hs.2.2 x hx y (List.mem_cons_of_mem _ hy)⟩
  ·rcases List.mem_append.1 hz with hz|hz
   ·exact h.below z (List.mem_append_left _ hz)
   ·exact h.below z (by simp[hz])
theorem MapE.but {A B:St} {f:Nat} {l:List (α × AV × Nat)} {c:Nat} (h:MapE enc A f l c) (hn:A.next≤B.next) (hg:B.get f=A.get f):MapE enc B f l c:=⟨Nat.lt_of_lt_of_le h.lt hn,by rw[hg];exact h.get,h.keys,h.stamps,h.below⟩
theorem MapE.ext {A B:St} {f:Nat} {l:List (α × AV × Nat)} {c:Nat} (h:MapE enc A f l c) (x:A.Ext B):MapE enc B f l c:=h.but x.next (x.get f h.lt)
theorem mapE_new (enc:α→AV) (A:St):MapE enc (A.push (.map [] 0)) A.next [] 0:=⟨Nat.lt_succ_self _,by rw[St.get_push,if_pos rfl];rfl,by simp,List.Pairwise.nil,fun _ h=>by cases h⟩
end

structure B4 (A:St) (f:Nat) (a b c d:AV):Prop where
 lt:f<A.next
 get:A.get f=some (.cells [a,b,c,d] [⟨0,0,4,1⟩] 1 false)
section
variable {A B:St} {f:Nat} {a b c d:AV}
end
@[simp] theorem boxV_op (o:OpD):boxV (.agg o.cells)=some (o.cells,1,.ptr):=rfl
section
variable {D:Disp} {G0:Env} {fns:Nat→Option AFn} {X:Calls'}
def normalK (I:Env→St→Prop) (ex:Ex) (E:Env) (A:St):Prop:=
 match ex with
 | .normal=>I E A
 | _=>False
@[simp] theorem normalK_normal (I:Env→St→Prop) (E:Env) (A:St):normalK I .normal E A=I E A:=rfl
theorem contC_join (I:Env→St→Prop) {b:Bool} {x y:ACode} {E:Env} {A:St} {Q:Ex→Env→St→Prop} (h1:b=true→Wp D G0 fns X x E A (normalK I)) (h2:b=false→Wp D G0 fns X y E A (normalK I)) (h3:∀ E A,I E A→Q .normal E A):contC D G0 fns X (.bool b) x y E A Q:=by
 have hq:∀ ex E A,normalK I ex E A→Q ex E A:=fun ex E A h=>by
  cases ex with
  | normal=>exact h3 E A h
  | exit i=>exact h.elim
  | ret=>exact h.elim
 cases b with
 | true=>exact (h1 rfl).mono hq
 | false=>exact (h2 rfl).mono hq
end

theorem add_one {i:Nat} (h:i<2^62):binOf .add (.int .i64 i) (.int .i64 1)=some (.int .i64 ((i+1:Nat):Int)):=by
 rw[qbq,show (i:Int)+1=((i+1:Nat):Int) by omega,qDq (by omega)]
theorem qoq (k:IntKind) (i n:Nat):binOf .lss (.int k i) (.int k n)=some (.bool (decide (i<n))):=by
 rw[qjq];simp
theorem shr_nat {k j:IntKind} {a s:Nat} (h:s≤k.bits):∃ y:Nat,y=a / 2^s∧binOf .shr (.int k a) (.int j s)=some (.int k y):=⟨_,rfl,bin_shr_nat h⟩
theorem sub_nat {a b:Nat} (h:b≤a) (ha:a<2^62):∃ y:Nat,y=a - b∧binOf .sub (.int .i64 a) (.int .i64 b)=some (.int .i64 y):=
 ⟨_,rfl,by rw[qsq,show (a:Int) - (b:Int)=((a - b:Nat):Int) by omega,qDq (by omega)]⟩
theorem add_nat {a b:Nat} (ha:a<2^62) (hb:b<2^62):∃ y:Nat,y=a+b∧binOf .add (.int .i64 a) (.int .i64 b)=some (.int .i64 y):=
 ⟨_,rfl,by rw[qbq,show (a:Int)+(b:Int)=((a+b:Nat):Int) by omega,qDq (by omega)]⟩
section
variable {D:Disp} {G0:Env} {fns:Nat→Option AFn} {X:Calls'}
end
section
variable {D:Disp} {G0:Env} {fns:Nat→Option AFn} {X:Calls'}
def cutK (I:Env→St→Prop) (Q:Ex→Env→St→Prop) (ex:Ex) (E:Env) (A:St):Prop:=
 match ex with
 | .normal=>I E A
 | .exit i=>Q (.exit i) E A
 | .ret=>Q .ret E A
@[simp] theorem cutK_normal (I:Env→St→Prop) (Q:Ex→Env→St→Prop) (E:Env) (A:St):cutK I Q .normal E A=I E A:=rfl
@[simp] theorem cutK_exit (I:Env→St→Prop) (Q:Ex→Env→St→Prop) (i:Nat) (E:Env) (A:St):cutK I Q (.exit i) E A=Q (.exit i) E A:=rfl
@[simp] theorem cutK_ret (I:Env→St→Prop) (Q:Ex→Env→St→Prop) (E:Env) (A:St):cutK I Q .ret E A=Q .ret E A:=rfl
theorem wp_cut1 {a c:ACode} {E:Env} {A:St} {Q:Ex→Env→St→Prop} (I:Env→St→Prop) (h:Wp D G0 fns X a E A (cutK I Q)) (h2:∀ E A,I E A→Wp D G0 fns X c E A Q):Wp D G0 fns X (.seq a c) E A Q:=by
 rw[wp_seq]
 refine h.mono fun ex E A h=>?_
 cases ex with
 | normal=>exact h2 E A h
 | exit i=>exact h
 | ret=>exact h
end
section
variable {D:Disp} {G0:Env} {fns:Nat→Option AFn} {X:Calls'}
theorem ops_callv {f:FuncId} {first captured:List AV} {x:Operand} (args:List Operand) (d:Option Nat) (l:List AOper) {E:Env} (A:St) (Q:Ex→Env→St→Prop) (hx:ev E x=.func (.func f) first captured) (hk:allKnown (first++(evs E args++captured))=true) (hy:Nat.beq f yieldId=false:=by decide) :
  Ops D G0 fns X (⟨d,.callv x args,none⟩::l) E A Q=Ev D G0 fns X f (first++(evs E args++captured)) A (contR D G0 fns X d l E Q):=by
 refine propext ⟨fun ⟨k,E',A',h1,h2⟩=>?_,fun h=>WpO.call rfl rfl (by simp only[calleeOf,hx,hy,cond_false]) hk h⟩
 simp only[runOps,wantedA,opL_none (late_none (op:=.callv x args) (by simp[AOp.cls]) _ _),opOf,AOp.cls,calleeOf,hx,hy,cond_false,hk,cond_true] at h1
 split at h1
 ·rename_i v B hv
  exact⟨k,v,B,hv,k,E',A',h1,h2⟩
 ·cases h1
end
section
variable {A:St}
end

structure Cl (A:St) (f:Nat) (cs:List AV):Prop where
 lt:f<A.next
 get:A.get f=some (.cells cs [⟨0,0,cs.length,1⟩] 1 false)
structure Mod (W:Nat→Prop) (A B:St):Prop where
 next:A.next≤B.next
 get:∀ f,f<A.next→¬W f→B.get f=A.get f
section
variable {W W':Nat→Prop} {A B C:St} {f:Nat} {cs:List AV}
theorem Mod.refl (A:St):Mod W A A:=⟨Nat.le_refl _,fun _ _ _=>rfl⟩
theorem Mod.trans (h:Mod W A B) (k:Mod W B C):Mod W A C:=⟨Nat.le_trans h.next k.next,fun f hf hw=>(k.get f (Nat.lt_of_lt_of_le hf h.next) hw).trans (h.get f hf hw)⟩
theorem Mod.mono (h:Mod W A B) (hw:∀ f,f<A.next→W f→W' f):Mod W' A B:=⟨h.next,fun f hf hn=>h.get f hf fun hW=>hn (hw f hf hW)⟩
theorem Mod.of_ext (h:A.Ext B):Mod W A B:=⟨h.next,fun f hf _=>h.get f hf⟩
theorem Mod.ext (h:Mod (fun _=>False) A B):A.Ext B:=⟨h.next,fun f hf=>h.get f hf id⟩
theorem Mod.new (h:Mod W A B) (k:Mod (fun f=>W f∨A.next≤f) B C):Mod W A C:=⟨Nat.le_trans h.next k.next,fun f hf hw=>(k.get f (Nat.lt_of_lt_of_le hf h.next) (by rintro (h1|h1);exact hw h1;omega)).trans (h.get f hf hw)⟩
theorem mod_put (A:St) (f:Nat) (b:Blk) (hw:W f):Mod W A (A.put f b):=⟨Nat.le_refl _,fun g _ hg=>by rw[St.get_put,if_neg (by rintro rfl;exact hg hw)]⟩

theorem Cl.mod (h:Cl A f cs) (m:Mod W A B) (hw:¬W f):Cl B f cs:=⟨Nat.lt_of_lt_of_le h.lt m.next,by rw[m.get f h.lt hw];exact h.get⟩
theorem Cl.ext (h:Cl A f cs) (x:A.Ext B):Cl B f cs:=⟨Nat.lt_of_lt_of_le h.lt x.next,by rw[x.get f h.lt];exact h.get⟩
theorem Cl.make (A:St) (cs:List AV):Cl (A.make cs 1).2 A.next cs:=⟨Nat.lt_succ_self _,get_make A cs 1⟩
theorem Cl.look (h:Cl A f cs) (o:Nat):A.look (f,0,o)=some (cs,⟨0,0,cs.length,1⟩,1,false):=by
 unfold St.look
 dsimp only
 rw[h.get]
 rfl
theorem Cl.ld (h:Cl A f cs) (o:Nat) {v:AV} (hv:cs[o]?=some v):loadV A 1 false (.ptr (some (f,0,o)))=some v:=by
 have hlt:=(List.getElem?_eq_some_iff.1 hv).1
 unfold loadV St.cells
 dsimp only
 rw[h.look]
 dsimp only
 rw[if_pos ⟨Nat.zero_le _,by omega,Nat.le_refl _⟩]
 have:(cs.drop o).take 1=[v]:=by
  rw[List.drop_eq_getElem_cons hlt,List.take_succ_cons,List.take_zero]
  rw[List.getElem?_eq_getElem hlt] at hv
  cases hv
  rfl
 rw[this]
 rfl
theorem Cl.lda (h:Cl A f cs) (o n:Nat) (hn:o+n≤cs.length):loadV A n true (.ptr (some (f,0,o)))=some (.agg ((cs.drop o).take n)):=by
 unfold loadV St.cells
 dsimp only
 rw[h.look]
 dsimp only
 rw[if_pos ⟨Nat.zero_le _,hn,Nat.le_refl _⟩]
 rfl
theorem splice_one {cs:List AV} {o:Nat} {v:AV} (h:o<cs.length):splice cs o [v]=cs.set o v:=by
 unfold splice
 rw[List.set_eq_take_append_cons_drop,if_pos h]
 rfl
theorem Cl.st (h:Cl A f cs) (o:Nat) (ho:o<cs.length) {v:AV} (hf:v.flat=true) (hc:v.cells=[v]) (hb:v.isBot=false):storeV A 1 (.ptr (some (f,0,o))) v=some (.bot,A.put f (.cells (cs.set o v) [⟨0,0,cs.length,1⟩] 1 false))∧Cl (A.put f (.cells (cs.set o v) [⟨0,0,cs.length,1⟩] 1 false)) f (cs.set o v):=by
 refine⟨?_,h.lt,by rw[St.get_put,if_pos rfl,List.length_set]⟩
 have hw:A.write (f,0,o) [v]=some (A.put f (.cells (cs.set o v) [⟨0,0,cs.length,1⟩] 1 false)):=by
  simp only[St.write,h.look]
  rw[if_pos ⟨Nat.zero_le _,by simp only[List.length_singleton];omega,Nat.le_refl _,by simp[hf]⟩,splice_one ho]
 unfold storeV
 cases v<;>simp[AV.isBot] at hb<;>simp only[hc,hw]<;>rfl
theorem Cl.sta (h:Cl A f cs) {l:List AV} (hl:l.length=cs.length) (hf:l.all AV.flat=true):storeV A cs.length (.ptr (some (f,0,0))) (.agg l)=some (.bot,A.put f (.cells l [⟨0,0,cs.length,1⟩] 1 false))∧Cl (A.put f (.cells l [⟨0,0,cs.length,1⟩] 1 false)) f l:=by
 refine⟨?_,h.lt,by rw[St.get_put,if_pos rfl,hl]⟩
 have hw:A.write (f,0,0) l=some (A.put f (.cells l [⟨0,0,cs.length,1⟩] 1 false)):=by
  simp only[St.write,h.look]
  rw[if_pos ⟨Nat.zero_le _,by simp[hl],Nat.le_refl _,hf⟩]
  have:splice cs 0 l=l:=by
   unfold splice
   rw[Nat.zero_add,hl,List.drop_length,List.append_nil]
   rfl
  rw[this]
 unfold storeV
 simp only[AV.cells,hl,if_true,hw]
theorem Sl.mod {sz:Nat} {s:AV} {cs:List AV} (e:Sl A sz s cs) (m:Mod W A B) (hw:∀ f,s.into f=true→¬W f):Sl B sz s cs:=by
 refine e.of_get m.next fun p po len cap q hs=>?_
 have hf:s.into p.1=true:=by rw[hs];simp[AV.into]
 exact m.get _ (Sl.into_lt e hf) (hw _ hf)
section
variable {α:Type} [DecidableEq α] {enc:α→AV}
theorem MapE.mod {l:List (α × AV × Nat)} {c:Nat} (h:MapE enc A f l c) (m:Mod W A B) (hw:¬W f):MapE enc B f l c:=h.but m.next (m.get f h.lt hw)
end
end
theorem Sl.beq {A:St} {sz:Nat} {s:AV} {cs:List AV} (h:Sl A sz s cs):AV.beq s s=true:=by
 obtain⟨a,po,cap,q,e⟩:=h.isSlice
 rw[e]
 simp[AV.beq]
theorem cut_into {sz:Nat} {s s':AV} {lo hi:Option AV} (h:cutSliceOf sz s lo hi none=some s') {f:Nat} (hf:s'.into f=true):s.into f=true:=by
 cases s with
 | slice a po len cap q=>
  cases a with
  | none=>
   simp only[cutSliceOf] at h
   repeat' split at h
   all_goals first|(cases h;done)|(cases h;cases hf)
  | some p=>
   obtain⟨g,v,o⟩:=p
   cases q with
   | zero=>
    simp only[cutSliceOf] at h
    repeat' split at h
    all_goals first|(cases h;done)|(cases h;exact hf)
   | succ q=>
    simp only[cutSliceOf] at h
    repeat' split at h
    all_goals first|(cases h;done)|(cases h;exact hf)
 | _=>simp[cutSliceOf] at h
structure InC (A:St) (p:Nat) (b:List UInt8) (s e:AV) (i:Nat):Prop where
 cl:Cl A p [s,.int .i64 i,e]
 sl:Sl A 1 s (bytesV b)
 below:∀ f,s.into f=true→f<p
 le:i≤b.length
 few:b.length<2^40
theorem InC.off {A:St} {p:Nat} {b:List UInt8} {s e:AV} {i:Nat} (h:InC A p b s e i):s.into p=false:=by
 cases hb:s.into p with
 | false=>rfl
 | true=>exact absurd (h.below p hb) (Nat.lt_irrefl p)
theorem InC.mod {W:Nat→Prop} {A B:St} {p:Nat} {b:List UInt8} {s e:AV} {i:Nat} (h:InC A p b s e i) (m:Mod W A B) (hp:¬W p) (hs:∀ f,s.into f=true→¬W f):InC B p b s e i:=
 ⟨h.cl.mod m hp,h.sl.mod m hs,h.below,h.le,h.few⟩
theorem InC.ext {A B:St} {p:Nat} {b:List UInt8} {s e:AV} {i:Nat} (h:InC A p b s e i) (x:A.Ext B):InC B p b s e i:=⟨h.cl.ext x,Sl.ext x h.sl,h.below,h.le,h.few⟩
end Go.AM
namespace Go.Proofs.YtlaoookdegmnnaaGreatDoor
open Go.AM
def fnsL:Nat→Option AFn:=fun f=>bif Nat.beq f 67||(Nat.beq f 84||(Nat.beq f 156||(Nat.beq f 298||Nat.beq f 17))) then none else fns f
variable {D:Disp} {G0:Env} {X:Calls'}
theorem raw_spec {A:St} {p:Nat} {b:List UInt8} {s e:AV} {i:Nat} (h:InC A p b s e i) {n:Nat} (hn:n<18446744073709551616) :
  Ev D G0 fnsL X 352 [.ptr (some (p,0,0)),.int .u64 n] A fun r B=>
   (b.length - i<n∧A=B∧r=.tuple [.slice none 0 0 0 0,.bool false]) ∨
   (n≤b.length - i∧Mod (fun f=>f=p) A B∧InC B p b s e (i+n)∧∃ s',r=.tuple [s',.bool true]∧Sl B 1 s' (bytesV ((b.drop i).take n))∧s'.into p=false):=by
 refine Ev.fnK (fn:=a352) rfl ⟨by simp[a352],by decide⟩ ?_
 unfold a352
 have hle:=h.le
 have hfew:=h.few
 have l0:=h.cl.ld 0 (v:=s) rfl
 have l1:=h.cl.ld 1 (v:=.int .i64 i) rfl
 have hlen:=h.sl.lenV1
 rw[qFq] at hlen
 obtain⟨d,hd,ed⟩:=sub_nat (a:=b.length) (b:=i) hle (by omega)
 have ec:convV .u64 (.int .i64 d)=some (.int .u64 d):=by rw[qhq,qAq rfl (show d<2^64 by omega)]
 have eg:binOf .gtr (.int .u64 n) (.int .u64 d)=some (.bool (decide (d<n))):=by rw[qfq];simp
 simp[AV.addr,-qsq,-qfq,-qhq] at *
 refine Wp.draws ?_
 simp[AV.addr,l0,l1,hlen,ed,ec,eg,InAll,-qsq,-qfq,-qhq]
 refine⟨⟨h.sl.beq,by simp[AV.beq]⟩,?_⟩
 refine qeq (fun hc=>?_) (fun hc=>?_)
 ·simp at hc
  simp
  omega
 ·simp at hc
  have hin:i+n≤b.length:=by omega
  obtain⟨w,hw,ew⟩:=add_nat (a:=i) (b:=n) (by omega) (by omega)
  have ecn:convV .i64 (.int .u64 n)=some (.int .i64 n):=by rw[qhq,qDq (by omega)]
  obtain⟨s',c1,c2,c3⟩:=h.sl.cut (lo:=i) (hi:=w) (by omega) (by have:=h.sl.length;rw[qFq] at this;omega) (k:=.i64) (j:=.i64)
  have hoff:s'.into p=false:=by
   cases hb:s'.into p with
   | false=>rfl
   | true=>exact absurd h.off (by simp[cut_into c1 hb])
  rw[Nat.mul_one,Nat.mul_one,bytesV_take,bytesV_drop] at c3
  have e3:(b.take w).drop i=(b.drop i).take n:=by rw[List.drop_take];congr 1;omega
  rw[e3] at c3
  obtain⟨st1,st2⟩:=h.cl.st 1 (by simp) (v:=.int .i64 w) rfl rfl rfl
  try simp[-qbq,-qhq] at ew ecn
  simp only[Go.AM.wp_skip,seqK_normal,Go.AM.wp_seq]
  refine Wp.draws ?_
  simp[AV.addr,l0,l1,ew,ecn,c1,InAll,-qbq,-qhq]
  refine⟨⟨h.sl.beq,by simp[AV.beq]⟩,?_⟩
  simp[AV.addr,l0,l1,ew,ecn,st1,c3.known,-qbq,-qhq]
  have hm:Mod (fun f=>f=p) A (A.put p (.cells [s,.int .i64 w,e] [⟨0,0,3,1⟩] 1 false)):=mod_put A p _ rfl
  have hw':∀ {t:AV},t.into p=false→∀ f,t.into f=true→¬f=p:=fun ht f hf he=>by rw[he,ht] at hf;cases hf
  exact⟨by omega,hm,⟨by rw[←hw];exact st2,h.sl.mod hm (hw' h.off),h.below,by omega,h.few⟩,c3.mod hm (hw' hoff),hoff⟩
theorem gtr_byte (c:UInt8) (k:Nat):binOf .gtr (byteV c) (.int .u8 k)=some (.bool (decide (k<c.toNat))):=by unfold byteV;rw[qfq];simp
theorem eql_byte (c:UInt8):binOf .eql (byteV c) (.int .u8 0)=some (.bool (decide (c=0))):=by
 unfold byteV
 simp only[binOf,isShift,binInt,Option.some.injEq,AV.bool.injEq]
 by_cases h:c=0
 ·subst h;rfl
 ·have:c.toNat≠0:=fun h0=>h (UInt8.toNat_inj.1 (by simpa using h0))
  rw[decide_eq_false h]
  simp
  omega
theorem conv_byteU (c:UInt8):convV .u64 (byteV c)=some (.int .u64 c.toNat):=by
 unfold byteV
 rw[qhq,qAq rfl (show c.toNat<2^64 by have:=c.toNat_lt;omega)]
theorem beV_take_succ {l:List UInt8} {j:Nat} {c:UInt8} (hc:l[j]?=some c):beV (l.take (j+1))=beV (l.take j)*256+c.toNat:=by
 rw[List.take_add_one,hc]
 exact beV_append _ _
theorem or_step {n:Nat} (hn:n<2^56) (c:UInt8):∃ y:Nat,binOf .shl (.int .u64 n) (.int .u64 8)=some (.int .u64 y)∧binOf .or (.int .u64 y) (.int .u64 c.toNat)=some (.int .u64 ((n*256+c.toNat:Nat):Int)):=by
 have hc:=c.toNat_lt
 refine⟨n*256,?_,?_⟩
 ·have h:=bin_shl_nat (k:=.u64) (j:=.u64) (a:=n) (s:=8) (by decide)
  rw[qAq rfl (show n*2^8<2^64 by omega)] at h
  exact h
 ·rw[bin_or_un rfl (show n*256<2^64 by omega) (show c.toNat<2^64 by omega)]
  congr 3
  have:=Nat.two_pow_add_eq_or_of_lt (i:=8) (show c.toNat<2^8 from hc) n
  rw[Nat.mul_comm n 256]
  exact this.symm
theorem nat_spec {A:St} {p:Nat} {b:List UInt8} {s e:AV} {i:Nat} (h:InC A p b s e i) :
  Ev D G0 fnsL X 272 [.ptr (some (p,0,0))] A fun r B=>Mod (fun f=>f=p) A B∧∃ j,InC B p b s e j ∧
   match natP (b.drop i) with
   | some (n,l)=>r=.tuple [.int .u64 n,.bool true]∧l=b.drop j
   | none=>r=.tuple [.int .u64 0,.bool false]:=by
 refine Ev.fnK (fn:=a272) rfl ⟨by simp[a272],by decide⟩ ?_
 unfold a272
 simp[qaq,allKnown]
 refine (raw_spec h (n:=1) (by decide)).mono fun r B hr=>?_
 rcases hr with ⟨h1,rfl,rfl⟩|⟨h1,m1,h2,s1,rfl,sl1,off1⟩
 ·have hb:b.drop i=[]:=List.drop_eq_nil_of_le (by omega)
  simp[hb,natP]
  exact⟨Mod.refl A,i,h⟩
 ·obtain⟨c,l,hcl⟩:∃ c l,b.drop i=c::l:=by
   cases hb:b.drop i with
   | nil=>have:=congrArg List.length hb;simp at this;omega
   | cons c l=>exact⟨c,l,rfl⟩
  have hl:b.drop (i+1)=l:=by rw[←List.drop_drop,hcl];rfl
  have hll:l.length=b.length - (i+1):=by rw[←hl,List.length_drop]
  rw[hcl,List.take_succ_cons,List.take_zero] at sl1
  obtain⟨q,g1,g2⟩:=sl1.at_one (j:=0) (v:=byteV c) rfl .i64
  have eg:=gtr_byte c 8
  simp[-qfq] at g1 eg
  by_cases h8:8<c.toNat
  ·have hn:natP (c::l)=none:=by simp only[natP];rw[if_pos (.inl h8)]
   simp[g1,g2,eg,h8,hcl,hn,-qfq]
   exact⟨m1,i+1,h2⟩
  ·simp[g1,g2,eg,h8,conv_byteU,qaq,allKnown,-qfq,-qhq]
   refine (raw_spec h2 (n:=c.toNat) (by omega)).mono fun r2 B2 hr=>?_
   rcases hr with ⟨k1,rfl,rfl⟩|⟨k1,m2,k2,s2,rfl,sl2,off2⟩
   ·have hn:natP (c::l)=none:=by simp only[natP];rw[if_pos (.inr (.inl (by omega)))]
    simp[hcl,hn]
    exact⟨m1,i+1,h2⟩
   ·rw[hl] at sl2
    have hlen2:=sl2.lenV1
    have m12:=m1.trans m2
    have ht:(l.take c.toNat).length=c.toNat:=by rw[List.length_take];omega
    rw[qFq,ht] at hlen2
    have hk8:c.toNat≤8:=by omega
    have eg0:binOf .gtr (.int .i64 (c.toNat:Int)) (.int .i64 0)=some (.bool (decide (0<c.toNat))):=by rw[qfq];simp
    by_cases hhd:(l.take c.toNat).head?=some 0
    ·have hn:natP (c::l)=none:=by simp only[natP];rw[if_pos (.inr (.inr hhd))]
     have hz:0<c.toNat:=by
      rcases Nat.eq_zero_or_pos c.toNat with h0|h0
      ·rw[h0] at hhd;cases hhd
      ·exact h0
     obtain⟨q2,f1,f2⟩:=sl2.at_one (j:=0) (v:=byteV 0) (by unfold bytesV;rw[List.getElem?_map,←List.head?_eq_getElem?,hhd];rfl) .i64
     have eb:=eql_byte 0
     simp[-qqq,-qfq] at f1 eb
     simp[hlen2,eg0,hz,f1,f2,eb,hcl,hn,-qfq,-qqq]
     exact⟨m12,_,k2⟩
    ·have hn:natP (c::l)=some (beV (l.take c.toNat),l.drop c.toNat):=by
      simp only[natP]
      rw[if_neg]
      simp only[not_or]
      exact⟨h8,by omega,hhd⟩
     have hld:l.drop c.toNat=b.drop (i+1+c.toNat):=by rw[←hl,List.drop_drop]
     by_cases hz:0<c.toNat
     case' pos=>
      obtain⟨y,hy⟩:∃ y,(l.take c.toNat)[0]?=some y:=⟨_,List.getElem?_eq_getElem (by omega)⟩
      have hy0:y≠0:=fun h0=>hhd (by rw[List.head?_eq_getElem?,hy,h0])
      obtain⟨q2,f1,f2⟩:=sl2.at_one (j:=0) (v:=byteV y) (by unfold bytesV;rw[List.getElem?_map,hy];rfl) .i64
      have eb:=eql_byte y
      rw[decide_eq_false hy0] at eb
      simp[-qqq,-qfq] at f1 eb
      simp[hlen2,eg0,hz,f1,f2,eb,-qfq,-qqq]
     case' neg=>simp[hlen2,eg0,hz,-qfq]
     all_goals
      refine Wp.loopK (fun d E A'=>B2=A'∧Env.at E 45=s2∧Env.at E 46=.int .i64 c.toNat∧∃ j:Nat,Env.at E 47=.int .i64 j∧j+d=c.toNat∧Env.at E 7=.int .u64 (beV ((l.take c.toNat).take j))) c.toNat ?_ ?_
      ·exact⟨rfl,by simp,by simp,0,by simp,by simp,by simp[beV]⟩
      rintro d E A' ⟨rfl,e45,e46,j,e47,hj,e7⟩
      simp[e45,e46,e47,qoq,-qjq]
      refine qeq (fun hc=>?_) (fun hc=>?_)
      ·simp at hc
       obtain⟨x,hx⟩:∃ x,(l.take c.toNat)[j]?=some x:=⟨_,List.getElem?_eq_getElem (by omega)⟩
       obtain⟨q3,w1,w2⟩:=sl2.at_one (j:=j) (v:=byteV x) (by unfold bytesV;rw[List.getElem?_map,hx];rfl) .i64
       have hb56:beV ((l.take c.toNat).take j)<2^56:=by
        have h1:=beV_lt ((l.take c.toNat).take j)
        have h2:((l.take c.toNat).take j).length=j:=by rw[List.length_take,ht];omega
        rw[h2] at h1
        exact Nat.lt_of_lt_of_le h1 (Nat.le_trans (Nat.pow_le_pow_right (by decide) (show j≤7 by omega)) (by decide))
       obtain⟨y,o1,o2⟩:=or_step hb56 x
       have ea:=add_one (i:=j) (by omega)
       simp[-qbq] at ea
       simp[e45,e46,e47,e7,w1,w2,conv_byteU,o1,o2,ea,-qbq,-qhq]
       refine⟨d - 1,by omega,j+1,by omega,by omega,?_⟩
       rw[beV_take_succ hx]
       push_cast
       rfl
      ·simp at hc
       have hjk:j=c.toNat:=by omega
       have htt:(l.take c.toNat).take c.toNat=l.take c.toNat:=by rw[List.take_take];simp
       rw[hjk,htt] at e7
       simp[e7,hcl,hn]
       exact⟨m12,_,k2,hld⟩
end Go.Proofs.YtlaoookdegmnnaaGreatDoor
namespace Go.AM

def poly:Nat:=2197175160
def crcBit (s:Nat):Nat:=if s % 2=1 then (s / 2) ^^^ poly else s / 2
def crcIt:Nat→Nat→Nat
 | 0,s=>s
 | n+1,s=>crcIt n (crcBit s)
def crcByte (s:Nat) (c:UInt8):Nat:=crcIt 8 (s ^^^ c.toNat)
def crcAll (s:Nat) (l:List UInt8):Nat:=l.foldl crcByte s
def crcSum (l:List UInt8):Nat:=4294967295 ^^^ crcAll 4294967295 l

theorem crcBit_lt {s:Nat} (h:s<2^32):crcBit s<2^32:=by
 unfold crcBit
 split
 ·exact Nat.xor_lt_two_pow (by omega) (by decide)
 ·omega
theorem crcIt_lt:∀ (n:Nat) {s:Nat},s<2^32→crcIt n s<2^32
 | 0,_,h=>h
 | n+1,_,h=>crcIt_lt n (crcBit_lt h)
theorem crcIt_succ:∀ (n s:Nat),crcIt (n+1) s=crcBit (crcIt n s)
 | 0,_=>rfl
 | n+1,s=>by
  show crcIt (n+1) (crcBit s)=_
  rw[crcIt_succ n (crcBit s)]
  rfl
theorem xor_byte_lt {s:Nat} (h:s<2^32) (c:UInt8):s ^^^ c.toNat<2^32:=Nat.xor_lt_two_pow h (Nat.lt_of_lt_of_le c.toNat_lt (by decide))
theorem crcByte_lt {s:Nat} (h:s<2^32) (c:UInt8):crcByte s c<2^32:=crcIt_lt 8 (xor_byte_lt h c)
theorem crcAll_lt:∀ (l:List UInt8) {s:Nat},s<2^32→crcAll s l<2^32
 | [],_,h=>h
 | c::l,_,h=>crcAll_lt l (crcByte_lt h c)
theorem crcSum_lt (l:List UInt8):crcSum l<2^32:=Nat.xor_lt_two_pow (by decide) (crcAll_lt l (by decide))
theorem crcAll_append (s:Nat) (a b:List UInt8):crcAll s (a++b)=crcAll (crcAll s a) b:=List.foldl_append

def PartsB (A:St):List AV→List (List UInt8)→Prop
 | [],[]=>True
 | v::vs,l::ls=>Bs A v l∧PartsB A vs ls
 | _,_=>False
theorem PartsB.length {A:St}:∀ {vs:List AV} {ls:List (List UInt8)},PartsB A vs ls→vs.length=ls.length
 | [],[],_=>rfl
 | _::_,_::_,h=>by simp[PartsB.length h.2]
 | [],_::_,h=>h.elim
 | _::_,[],h=>h.elim
theorem PartsB.get {A:St}:∀ {vs:List AV} {ls:List (List UInt8)},PartsB A vs ls→∀ {i:Nat},i<vs.length→∃ v l,vs[i]?=some v∧ls[i]?=some l∧Bs A v l
 | [],[],_,i,h=>by simp at h
 | v::_,l::_,h,0,_=>⟨v,l,rfl,rfl,h.1⟩
 | _::_,_::_,h,i+1,hi=>by simpa using PartsB.get h.2 (by simpa using hi)
 | [],_::_,h,_,_=>h.elim
 | _::_,[],h,_,_=>h.elim
theorem PartsB.ext {A B:St} (h:A.Ext B):∀ {vs:List AV} {ls:List (List UInt8)},PartsB A vs ls→PartsB B vs ls
 | [],[],_=>trivial
 | _::_,_::_,e=>⟨Sl.ext h e.1,e.2.ext h⟩
 | [],_::_,h=>h.elim
 | _::_,[],h=>h.elim
theorem take_flatten_succ {α:Type} {ls:List (List α)} {i:Nat} {l:List α} (h:ls[i]?=some l):(ls.take (i+1)).flatten=(ls.take i).flatten++l:=by
 rw[List.take_add_one,h];simp
theorem take_succ_of {α:Type} {ls:List α} {i:Nat} {l:α} (h:ls[i]?=some l):ls.take (i+1)=ls.take i++[l]:=by
 rw[List.take_add_one,h];rfl

theorem and_one {x:Nat} (h:x<2^32):∃ y:Nat,y=x % 2∧binOf .and (.int .u32 x) (.int .u32 1)=some (.int .u32 y):=
 ⟨_,(Nat.and_one_is_mod x).symm ▸ rfl,bin_and_un (k:=.u32) (a:=x) (b:=1) rfl h (by decide)⟩
theorem shr_one (x:Nat):∃ y:Nat,y=x / 2∧binOf .shr (.int .u32 x) (.int .u64 1)=some (.int .u32 y):=
 ⟨_,by simp,bin_shr_nat (k:=.u32) (a:=x) (j:=.u64) (s:=1) (by decide)⟩
theorem xor_poly {x:Nat} (h:x<2^32):∃ y:Nat,y=x ^^^ poly∧binOf .xor (.int .u32 x) (.int .u32 2197175160)=some (.int .u32 y):=
 ⟨_,rfl,bin_xor_un (k:=.u32) (a:=x) (b:=2197175160) rfl h (by decide)⟩
theorem xor_byte {x:Nat} (h:x<2^32) (c:UInt8):∃ y:Nat,y=x ^^^ c.toNat∧binOf .xor (.int .u32 x) (.int .u32 c.toNat)=some (.int .u32 y):=
 ⟨_,rfl,bin_xor_un (k:=.u32) (a:=x) rfl h (Nat.lt_of_lt_of_le c.toNat_lt (by decide))⟩
theorem conv_byte (c:UInt8):convV .u32 (byteV c)=some (.int .u32 c.toNat):=by
 unfold byteV
 rw[qhq,wrap_u32_nat,Nat.mod_eq_of_lt (Nat.lt_of_lt_of_le c.toNat_lt (by decide))]
theorem not_u32 {x:Nat} (h:x<2^32):∃ y:Nat,y=4294967295 ^^^ x∧unOf .xor (.int .u32 x)=some (.int .u32 y):=
 ⟨_,rfl,by
  have e:unOf .xor (.int .u32 x)=binOf .xor (.int .u32 ((4294967295:Nat):Int)) (.int .u32 x):=rfl
  rw[e,bin_xor_un (k:=.u32) rfl (by decide) h]⟩

def refBit (s b:Nat):Nat:=if b≠s % 2 then (s / 2) ^^^ poly else s / 2
def refIt (c:Nat):Nat→Nat→Nat
 | 0,s=>s
 | n+1,s=>refBit (refIt c n s) (c / 2^n % 2)

def rs (l:List UInt8) (i:Nat):Nat:=refIt ((l[i / 8]?).getD 0).toNat (i % 8) (crcAll 4294967295 (l.take (i / 8)))
def headOf (l:List UInt8):List UInt8:=167::UInt8.ofNat (l.length / 256)::UInt8.ofNat (l.length % 256)::l
def sumOf (n:Nat):List UInt8:=[UInt8.ofNat (n / 16777216),UInt8.ofNat (n / 65536),UInt8.ofNat (n / 256),UInt8.ofNat n]
def frame (l:List UInt8):List UInt8:=headOf l++sumOf (crcSum (headOf l))
theorem qmq (l:List UInt8):(frame l).length=l.length+7:=by simp[frame,headOf,sumOf]

theorem ofNat_mod (n:Nat):UInt8.ofNat (n % 256)=UInt8.ofNat n:=by
 apply UInt8.toNat_inj.1
 simp

def lenOf (c1 c2:UInt8):Nat:=c1.toNat*256+c2.toNat
def peel:List UInt8→Option (List UInt8)
 | c0::c1::c2::t=>if lenOf c1 c2≤16384∧lenOf c1 c2+4≤t.length∧c0=167∧(t.drop (lenOf c1 c2)).take 4=sumOf (crcSum (headOf (t.take (lenOf c1 c2)))) then some (t.take (lenOf c1 c2)) else none
 | _=>none
theorem lenOf_lt (c1 c2:UInt8):lenOf c1 c2<65536:=by
 have:=c1.toNat_lt;have:=c2.toNat_lt;unfold lenOf;omega
theorem lenOf_hi (c1 c2:UInt8):UInt8.ofNat (lenOf c1 c2 / 256)=c1:=by
 have:=c1.toNat_lt;have:=c2.toNat_lt
 rw[show lenOf c1 c2 / 256=c1.toNat by unfold lenOf;omega];simp
theorem lenOf_lo (c1 c2:UInt8):UInt8.ofNat (lenOf c1 c2 % 256)=c2:=by
 have:=c1.toNat_lt;have:=c2.toNat_lt
 rw[show lenOf c1 c2 % 256=c2.toNat by unfold lenOf;omega];simp
theorem headOf_take {c1 c2:UInt8} {t:List UInt8} (h:lenOf c1 c2≤t.length):headOf (t.take (lenOf c1 c2))=167::c1::c2::t.take (lenOf c1 c2):=by
 unfold headOf
 rw[List.length_take,Nat.min_eq_left h,lenOf_hi,lenOf_lo]
theorem peel_short {l:List UInt8} (h:l.length<7):peel l=none:=by
 unfold peel
 split
 ·rename_i c0 c1 c2 t
  rw[if_neg]
  simp only[List.length_cons] at h
  omega
 ·rfl
theorem three_of {l:List UInt8} (h:7≤l.length):∃ c0 c1 c2 t,l=c0::c1::c2::t:=by
 match l,h with
 | c0::c1::c2::t,_=>exact⟨c0,c1,c2,t,rfl⟩
theorem conv_byte64 (c:UInt8):convV .i64 (byteV c)=some (.int .i64 c.toNat):=by
 unfold byteV
 rw[qhq,qDq (Nat.lt_of_lt_of_le c.toNat_lt (by decide))]
theorem shl_byte (c:UInt8):∃ y:Nat,y=c.toNat*256∧binOf .shl (.int .i64 c.toNat) (.int .u64 8)=some (.int .i64 y):=
 ⟨_,rfl,by
  have:=bin_shl_nat (k:=.i64) (a:=c.toNat) (j:=.u64) (s:=8) (by decide)
  rw[show c.toNat*2^8=c.toNat*256 from rfl,qDq (by have:=c.toNat_lt;omega)] at this
  exact this⟩
theorem or_byte {y:Nat} (c1 c2:UInt8) (h:y=c1.toNat*256):∃ n:Nat,n=lenOf c1 c2∧binOf .or (.int .i64 y) (.int .i64 c2.toNat)=some (.int .i64 n):=
 ⟨_,rfl,by
  have h1:=c1.toNat_lt
  have h2:=c2.toNat_lt
  rw[bin_or_i64 (by omega) (by omega)]
  have e:y ||| c2.toNat=lenOf c1 c2:=by
   rw[h]
   have:=Nat.shiftLeft_add_eq_or_of_lt (i:=8) (b:=c2.toNat) (by omega) c1.toNat
   rw[Nat.shiftLeft_eq] at this
   exact this.symm
  rw[e]⟩
theorem gtr_nat (k:IntKind) (i n:Nat):binOf .gtr (.int k i) (.int k n)=some (.bool (decide (n<i))):=by
 rw[qfq];simp
theorem eql_nat (k:IntKind) (i n:Nat):binOf .eql (.int k i) (.int k n)=some (.bool (decide (i=n))):=by
 rw[qqq];simp;omega
theorem neq_byte (c d:UInt8):binOf .neq (byteV c) (byteV d)=some (.bool (decide (c≠d))):=by
 unfold byteV
 rw[bin_neq]
 have e:((c.toNat:Int)=(d.toNat:Int))↔c=d:=⟨fun h=>UInt8.toNat_inj.1 (by omega),fun h=>by rw[h]⟩
 simp[e]

theorem peel_cons (c0 c1 c2:UInt8) (t:List UInt8):peel (c0::c1::c2::t)=if lenOf c1 c2≤16384∧lenOf c1 c2+4≤t.length∧c0=167∧(t.drop (lenOf c1 c2)).take 4=sumOf (crcSum (headOf (t.take (lenOf c1 c2)))) then some (t.take (lenOf c1 c2)) else none:=rfl
theorem peel_bad {l:List UInt8} {c0 c1 c2:UInt8} {t:List UInt8} (h:l=c0::c1::c2::t) {n:Nat} (hn:n=lenOf c1 c2) (hb:¬(n≤16384∧n+7≤l.length)):peel l=none:=by
 rw[h] at *
 rw[peel_cons,if_neg]
 rintro ⟨h1,h2,_⟩
 exact hb ⟨by omega,by simp only[List.length_cons];omega⟩
theorem peel_sum {l:List UInt8} {c0 c1 c2:UInt8} {t:List UInt8} (h:l=c0::c1::c2::t) {n:Nat} (hn:n=lenOf c1 c2) (h0:c0=167) (h1:n≤16384) (h2:n+7≤l.length) :
  peel l=if (l.take (n+7)).drop (3+n)=sumOf (crcSum (l.take (3+n))) then some ((l.take (3+n)).drop 3) else none:=by
 subst h;subst hn;subst h0
 have e:(((167::c1::c2::t).take (3+lenOf c1 c2)).drop 3)=t.take (lenOf c1 c2):=by
  rw[Nat.add_comm];rfl
 simp only[List.length_cons] at h2
 have e2:((167::c1::c2::t).take (3+lenOf c1 c2))=headOf (t.take (lenOf c1 c2)):=by
  rw[headOf_take (by omega),Nat.add_comm];rfl
 have e3:((167::c1::c2::t).take (lenOf c1 c2+7)).drop (3+lenOf c1 c2)=(t.drop (lenOf c1 c2)).take 4:=by
  rw[show lenOf c1 c2+7=(3+lenOf c1 c2)+4 by omega,List.drop_take,show 3+lenOf c1 c2+4 - (3+lenOf c1 c2)=4 by omega,show 3+lenOf c1 c2=lenOf c1 c2+1+1+1 by omega,List.drop_succ_cons,List.drop_succ_cons,List.drop_succ_cons]
 rw[e,e2,e3,peel_cons]
 by_cases hf:(t.drop (lenOf c1 c2)).take 4=sumOf (crcSum (headOf (t.take (lenOf c1 c2))))
 ·rw[if_pos hf,if_pos ⟨h1,by omega,rfl,hf⟩]
 ·rw[if_neg hf,if_neg (fun h=>hf h.2.2.2)]

def allN:Nat→List UInt8→List (List UInt8)
 | 0,_=>[]
 | n+1,l=>match peel l with
  | some m=>m::allN n (l.drop (m.length+7))
  | none=>[]
def bodies (l:List UInt8):List (List UInt8):=allN l.length l
def span:List (List UInt8)→Nat
 | []=>0
 | m::ms=>m.length+7+span ms
theorem span_append:∀ (a b:List (List UInt8)),span (a++b)=span a+span b
 | [],b=>by simp[span]
 | m::a,b=>by simp only[List.cons_append,span,span_append a b];omega
theorem peel_len {l m:List UInt8} (h:peel l=some m):m.length+7≤l.length∧m.length≤16384:=by
 by_cases hc:l.length<7
 ·rw[peel_short hc] at h;cases h
 ·obtain⟨c0,c1,c2,t,rfl⟩:=three_of (Nat.le_of_not_lt hc)
  rw[peel_cons] at h
  split at h
  ·rename_i hh
   cases h
   simp only[List.length_take,List.length_cons]
   omega
  ·cases h
theorem allN_eq:∀ {n:Nat} {l:List UInt8},l.length≤n→allN n l=allN l.length l
 | 0,l,h=>by rw[show l.length=0 by omega]
 | n+1,l,h=>by
  cases hp:peel l with
  | none=>
   have e:∀ k,allN k l=[]:=fun k=>by cases k with
    | zero=>rfl
    | succ k=>simp only[allN,hp]
   rw[e,e]
  | some m=>
   have hm:=(peel_len hp).1
   obtain⟨k,hk⟩:∃ k,l.length=k+1:=⟨l.length - 1,by omega⟩
   rw[hk]
   simp only[allN,hp]
   rw[allN_eq (n:=n) (by rw[List.length_drop];omega),allN_eq (n:=k) (by rw[List.length_drop];omega)]
theorem bodies_none {l:List UInt8} (h:peel l=none):bodies l=[]:=by
 unfold bodies
 cases l.length with
 | zero=>rfl
 | succ k=>simp only[allN,h]
theorem bodies_some {l m:List UInt8} (h:peel l=some m):bodies l=m::bodies (l.drop (m.length+7)):=by
 have hm:=(peel_len h).1
 unfold bodies
 obtain⟨k,hk⟩:∃ k,l.length=k+1:=⟨l.length - 1,by omega⟩
 conv=>lhs;rw[hk]
 simp only[allN,h]
 rw[allN_eq (n:=k) (by rw[List.length_drop];omega)]

theorem lenOf_ofNat {n:Nat} (h:n<65536):lenOf (UInt8.ofNat (n / 256)) (UInt8.ofNat (n % 256))=n:=by
 unfold lenOf
 rw[UInt8.toNat_ofNat',UInt8.toNat_ofNat']
 omega
theorem sumOf_length (n:Nat):(sumOf n).length=4:=rfl
theorem peel_app {m:List UInt8} (h:m.length≤16384) (r:List UInt8):peel (frame m++r)=some m:=by
 have e:frame m++r=167::UInt8.ofNat (m.length / 256)::UInt8.ofNat (m.length % 256)::(m++(sumOf (crcSum (headOf m))++r)):=by
  unfold frame
  rw[List.append_assoc]
  rfl
 rw[e,peel_cons,lenOf_ofNat (by omega)]
 have e1:(m++(sumOf (crcSum (headOf m))++r)).take m.length=m:=by simp
 have e2:(m++(sumOf (crcSum (headOf m))++r)).drop m.length=sumOf (crcSum (headOf m))++r:=by simp
 rw[e1,e2,List.take_append_of_le_length (by rw[sumOf_length];exact Nat.le_refl _),List.take_of_length_le (by rw[sumOf_length];exact Nat.le_refl _),if_pos]
 refine⟨h,?_,rfl,rfl⟩
 rw[List.length_append,List.length_append,sumOf_length]
 omega

def fr:List (List UInt8)→List UInt8
 | []=>[]
 | m::ms=>frame m++fr ms
theorem fr_append:∀ (a b:List (List UInt8)),fr (a++b)=fr a++fr b
 | [],_=>rfl
 | m::a,b=>by simp only[List.cons_append,fr,fr_append a b,List.append_assoc]
theorem fr_length:∀ (a:List (List UInt8)),(fr a).length=span a
 | []=>rfl
 | m::a=>by simp only[fr,span,List.length_append,qmq,fr_length a]
def wh:Nat→List (List UInt8)→List (List UInt8)
 | _,[]=>[]
 | c,m::ms=>if m.length+7≤c then m::wh (c - (m.length+7)) ms else []
theorem peel_cut {m:List UInt8} (hm:m.length≤16384) {c:Nat} (hc:c<m.length+7):peel ((frame m).take c)=none:=by
 by_cases h7:c<7
 ·exact peel_short (by rw[List.length_take];omega)
 ·have hl:((frame m).take c).length=c:=by rw[List.length_take,qmq];omega
  obtain⟨d,rfl⟩:∃ d,c=d+3:=⟨c - 3,by omega⟩
  have e:(frame m).take (d+3)=167::UInt8.ofNat (m.length / 256)::UInt8.ofNat (m.length % 256)::(m++sumOf (crcSum (headOf m))).take d:=rfl
  refine peel_bad e rfl fun h=>?_
  rw[lenOf_ofNat (by omega),hl] at h
  omega
theorem bodies_cut:∀ {ms:List (List UInt8)} {c:Nat},(∀ m∈ms,m.length≤16384)→bodies ((fr ms).take c)=wh c ms
 | [],c,_=>by
  rw[show (fr []).take c=[] by cases c<;>rfl]
  rfl
 | m::ms,c,h=>by
  have hm:=h m List.mem_cons_self
  unfold wh
  by_cases hc:m.length+7≤c
  ·rw[if_pos hc]
   have e:(fr (m::ms)).take c=frame m++(fr ms).take (c - (m.length+7)):=by
    show (frame m++fr ms).take c=_
    rw[List.take_append,qmq,List.take_of_length_le (by rw[qmq];exact hc)]
   rw[e,bodies_some (peel_app hm _)]
   rw[show (frame m++(fr ms).take (c - (m.length+7))).drop (m.length+7)=(fr ms).take (c - (m.length+7)) by rw[←qmq,List.drop_left]]
   rw[bodies_cut fun q hq=>h q (List.mem_cons_of_mem _ hq)]
  ·rw[if_neg hc]
   have e:(fr (m::ms)).take c=(frame m).take c:=by
    show (frame m++fr ms).take c=_
    rw[List.take_append_of_le_length (by rw[qmq];omega)]
   rw[e]
   exact bodies_none (peel_cut hm (by omega))

end Go.AM
