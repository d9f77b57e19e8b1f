/- Rows in order: changes. -/
import Derived.Test.YtlaoookdegmnnaaGreatDoorStFrames
import Derived.Test.YtlaoookdegmnnaaGreatDoorAmStr
import Derived.Test.YtlaoookdegmnnaaGreatDoorHpTape
import Derived.Shelf.SortM.SortNone
import Derived.Shelf.SortM.Plain
set_option maxRecDepth 100000
set_option linter.unusedSimpArgs false
set_option linter.unusedVariables false
namespace Go.Proofs.YtlaoookdegmnnaaGreatDoor
open Go.AM
variable {D:Disp} {G0:Env} {X:Calls'}
theorem ofNat_mod' (n:Nat):UInt8.ofNat (n % 256)=UInt8.ofNat n:=by
 apply UInt8.toNat_inj.1
 simp
theorem encNat_spec {A:St} {n:Nat} (hn:n<18446744073709551616):Ev D G0 fnsL X 120 [.int .u64 n] A fun r B=>A.Ext B∧OwnB A.next B r (natB n):=by
 refine Ev.fnK (fn:=a120) rfl ⟨by simp[a120],by decide⟩ ?_
 unfold a120
 simp[Made.value]
 have hcl:=Cl.make A [AV.int .u8 0,AV.int .u8 0,AV.int .u8 0,AV.int .u8 0,AV.int .u8 0,AV.int .u8 0,AV.int .u8 0,AV.int .u8 0,AV.int .u8 0]
 have hx:=qdq A [AV.int .u8 0,AV.int .u8 0,AV.int .u8 0,AV.int .u8 0,AV.int .u8 0,AV.int .u8 0,AV.int .u8 0,AV.int .u8 0,AV.int .u8 0] 1
 have hrep:[AV.int .u8 0,AV.int .u8 0,AV.int .u8 0,AV.int .u8 0,AV.int .u8 0,AV.int .u8 0,AV.int .u8 0,AV.int .u8 0,AV.int .u8 0]=List.replicate 9 (byteV 0):=rfl
 rw[hrep] at hcl hx
 try rw[hrep]
 generalize (A.make (List.replicate 9 (byteV 0)) 1).2=A1 at *
 refine Wp.loopK (fun d E A'=>A.Ext A'∧Env.at E 3=.ptr (some (A.next,0,0))∧∃ (k:Nat) (suf:List UInt8),Env.at E 4=.int .i64 k∧Env.at E 5=.int .u64 d∧beB n=beB d++suf∧suf.length=k∧d<256^(8 - k)∧k≤8∧Cl A' A.next (List.replicate (9 - k) (byteV 0)++bytesV suf)) n ?_ ?_
 ·exact⟨hx,by simp,0,[],by simp,by simp,by simp,rfl,hn,by omega,by simpa[bytesV] using hcl⟩
 rintro d E A' ⟨x1,e3,k,suf,e4,e5,hb,hk,hd,hk8,hcl1⟩
 have eg:binOf .gtr (.int .u64 (d:Int)) (.int .u64 0)=some (.bool (decide (0<d))):=by rw[qfq];simp
 simp[e4,e5,eg,-qfq]
 refine qeq (fun hc=>?_) (fun hc=>?_)
 ·simp at hc
  have hk7:k<8:=by
   rcases Nat.lt_or_ge k 8 with h|h
   ·exact h
   ·rw[show 8 - k=0 by omega] at hd
    simp at hd
    omega
  have ea:=add_one (i:=k) (by omega)
  obtain⟨y,hy,ey⟩:=sub_nat (a:=9) (b:=k+1) (by omega) (by decide)
  have es:binOf .shr (.int .u64 (d:Int)) (.int .u64 8)=some (.int .u64 ((d / 256:Nat):Int)):=bin_shr_nat (k:=.u64) (j:=.u64) (a:=d) (s:=8) (by decide)
  obtain⟨st1,st2⟩:=hcl1.st (8 - k) (by simp;omega) (v:=byteV (UInt8.ofNat d)) rfl rfl rfl
  have hset:(List.replicate (9 - k) (byteV 0)++bytesV suf).set (8 - k) (byteV (UInt8.ofNat d))=List.replicate (8 - k) (byteV 0)++bytesV (UInt8.ofNat d::suf):=by
   rw[show 9 - k=(8 - k)+1 by omega,set_zero]
   rfl
  have hlen9:(List.replicate (9 - k) (byteV 0)++bytesV suf).length=9:=by simp;omega
  rw[hset,hlen9] at st1 st2
  have hi:index? 9 (.int .i64 (y:Int))=some (8 - k):=by
   simp only[index?]
   rw[if_pos ⟨by omega,by omega⟩]
   congr 1
   omega
  simp[-qbq,-qsq] at ea ey es
  simp[e3,e4,e5,ea,ey,es,hi,conv_u8,AV.addr,st1,-qbq,-qsq,-qhq]
  refine⟨d / 256,by omega,⟨x1.next,fun f hf=>by rw[St.get_put,if_neg (by omega)];exact x1.get f hf⟩,k+1,by omega,by omega,UInt8.ofNat d::suf,?_,by simp[hk],?_,by omega,by rw[show 9 - (k+1)=8 - k by omega];exact st2⟩
  ·rw[hb,beB_pos (by omega:d≠0),ofNat_mod',List.append_assoc]
   rfl
  ·rw[show 8 - k=(8 - (k+1))+1 by omega,Nat.pow_succ] at hd
   exact Nat.div_lt_of_lt_mul (by omega)
 ·simp at hc
  subst hc
  rw[beB_zero,List.nil_append] at hb
  have hkl:k=(beB n).length:=by rw[hb,hk]
  obtain⟨y,hy,ey⟩:=sub_nat (a:=8) (b:=k) hk8 (by decide)
  have hi:index? 9 (.int .i64 (y:Int))=some (8 - k):=by
   simp only[index?]
   rw[if_pos ⟨by omega,by omega⟩]
   congr 1
  obtain⟨st1,st2⟩:=hcl1.st (8 - k) (by simp;omega) (v:=byteV (UInt8.ofNat k)) rfl rfl rfl
  have hset:(List.replicate (9 - k) (byteV 0)++bytesV suf).set (8 - k) (byteV (UInt8.ofNat k))=List.replicate (8 - k) (byteV 0)++bytesV (natB n):=by
   rw[show 9 - k=(8 - k)+1 by omega,set_zero]
   unfold natB
   rw[←hkl,hb]
   rfl
  have hlen9:(List.replicate (9 - k) (byteV 0)++bytesV suf).length=9:=by simp;omega
  rw[hset,hlen9] at st1 st2
  simp[-qsq] at ey
  have xA:A.Ext (A'.put A.next (.cells (List.replicate (8 - k) (byteV 0)++bytesV (natB n)) [⟨0,0,9,1⟩] 1 false)):=⟨x1.next,fun f hf=>by rw[St.get_put,if_neg (by omega)];exact x1.get f hf⟩
  simp[e3,e4,ey,hi,conv_u8,AV.addr,st1,-qsq,-qhq]
  generalize A'.put A.next (.cells (List.replicate (8 - k) (byteV 0)++bytesV (natB n)) [⟨0,0,9,1⟩] 1 false)=A2 at *
  have hxs:=Cl.sl st2
  have hl9:(List.replicate (8 - k) (byteV 0)++bytesV (natB n)).length=9:=by unfold natB;simp;omega
  rw[hl9] at hxs
  have x2:=qdq A2 [] 1
  have ho:AM.Own A.next (A2.make [] 1).2 1 (.slice (some (A2.next,0,0)) 0 0 0 0) []:=by simpa using qtq A2 (cs:=[]) (sz:=1) (n:=0) (by simp) xA.next (len:=0) (Nat.le_refl _)
  obtain⟨s',c1,c2,c3⟩:=(Sl.ext x2 hxs).cutFrom (lo:=y) (by simp[AV.slen];omega) (k:=.i64)
  have hdr:(List.replicate (8 - k) (byteV 0)++bytesV (natB n)).drop (y*1)=bytesV (natB n):=by
   rw[Nat.mul_one,hy,List.drop_left' (by simp)]
  rw[hdr] at c3
  have hnl:=natB_length hn
  have hsl:s'.slen=(natB n).length:=by have:=c3.length;rw[qFq] at this;omega
  obtain⟨r,B,h1,h2,h3,h4,h5⟩:=qpq (bytes:=1) ho c3 (Nat.le_trans xA.next x2.next) (by decide) (bytesV_flat _) (by rw[hsl,qnq];omega) (by rw[hsl,qnq];omega)
  simp[fillA,Made.value,pureOf,evo,e3,e4,ey,c1,h1,h3.sl.known,-qsq]
  exact⟨h4.ext (xA.trans x2) ho,by simpa using h3⟩
theorem encStr_spec {A:St} {s:List UInt8} (hs:s.length<2^40):Ev D G0 fnsL X 214 [.str s] A fun r B=>A.Ext B∧OwnB A.next B r (strB s):=by
 refine Ev.fnK (fn:=a214) rfl ⟨by simp[a214],by decide⟩ ?_
 unfold a214
 have ec:convV .u64 (.int .i64 (s.length:Int))=some (.int .u64 (s.length:Int)):=by rw[qhq,qAq rfl (show s.length<2^64 by omega)]
 simp[lenStrV,ec,qaq,allKnown,-qhq]
 refine (encNat_spec (by omega)).mono fun r B ⟨x,ho⟩=>?_
 have hn:=natB_length (n:=s.length) (by omega)
 have hrl:=Bs.len ho.sl
 obtain⟨s',B2,h1,h2,h3,h4,h5⟩:=appendV_str (l:=s) (bytes:=1) ho x.next (by omega) (by omega)
 simp[h1,h3.sl.known]
 refine⟨h4.ext x ho,?_⟩
 rw[←qzq] at h3
 exact h3
theorem xor_ones (x:Nat) (h:x<18446744073709551616):x ^^^ 18446744073709551615=18446744073709551615 - x:=by
 have h1:(BitVec.ofNat 64 x ^^^ BitVec.allOnes 64) = ~~~ (BitVec.ofNat 64 x):=BitVec.xor_allOnes
 have h2:=congrArg BitVec.toNat h1
 simp only[BitVec.toNat_xor,BitVec.toNat_ofNat,BitVec.toNat_allOnes,BitVec.toNat_not,Nat.mod_eq_of_lt (show x<2^64 from h)] at h2
 exact h2
theorem shr63 (n:Int):binOf .shr (.int .i64 n) (.int .u64 63)=some (.int .i64 (n / 9223372036854775808)):=by
 have e:binOf .shr (.int .i64 n) (.int .u64 63)=shiftInt .shr .i64 n 63:=by simp[binOf,isShift]
 rw[e]
 unfold shiftInt
 rw[if_neg (by decide)]
 dsimp only
 congr 2
 show n.fdiv (2^63)=_
 rw[Int.fdiv_eq_ediv_of_nonneg _ (by decide)]
 rfl
theorem encNum_spec {A:St} {n:Int} (hn:i64ok n):Ev D G0 fnsL X 216 [.int .i64 n] A fun r B=>A.Ext B∧OwnB A.next B r (numB n):=by
 refine Ev.fnK (fn:=a216) rfl ⟨by simp[a216],by decide⟩ ?_
 unfold a216
 unfold i64ok at hn
 have hz:=zig_lt (n:=n) hn
 have key:∃ u v w:Nat,convV .u64 (.int .i64 n)=some (.int .u64 (u:Int))∧binOf .shl (.int .u64 (u:Int)) (.int .u64 1)=some (.int .u64 (v:Int))∧binOf .xor (.int .u64 (v:Int)) (.int .u64 (w:Int))=some (.int .u64 (zig n:Int)) ∧
   ∃ q:Int,binOf .shr (.int .i64 n) (.int .u64 63)=some (.int .i64 q)∧convV .u64 (.int .i64 q)=some (.int .u64 (w:Int)):=by
  by_cases h0:n<0
  ·refine⟨(18446744073709551616+n).toNat,(18446744073709551616+2*n).toNat,18446744073709551615,?_,?_,?_,-1,?_,?_⟩
   ·rw[qhq,wrap_un rfl]
    congr 2
    show n % 18446744073709551616=_
    omega
   ·have:=bin_shl_nat (k:=.u64) (j:=.u64) (a:=(18446744073709551616+n).toNat) (s:=1) (by decide)
    rw[wrap_un_nat rfl] at this
    rw[show ((1:Nat):Int)=1 from rfl] at this
    rw[this]
    congr 2
    show (((18446744073709551616+n).toNat*2^1 % 18446744073709551616:Nat):Int)=_
    omega
   ·have:=bin_xor_un (k:=.u64) (a:=(18446744073709551616+2*n).toNat) (b:=18446744073709551615) rfl (show _<18446744073709551616 by omega) (by decide)
    rw[xor_ones _ (by omega)] at this
    rw[this]
    congr 2
    unfold zig
    rw[if_pos h0]
    omega
   ·rw[shr63]
    congr 2
    omega
   ·rfl
  ·refine⟨n.toNat,(2*n).toNat,0,?_,?_,?_,0,?_,?_⟩
   ·rw[qhq,wrap_un rfl]
    congr 2
    show n % 18446744073709551616=_
    omega
   ·have:=bin_shl_nat (k:=.u64) (j:=.u64) (a:=n.toNat) (s:=1) (by decide)
    rw[wrap_un_nat rfl] at this
    rw[show ((1:Nat):Int)=1 from rfl] at this
    rw[this]
    congr 2
    show ((n.toNat*2^1 % 18446744073709551616:Nat):Int)=_
    omega
   ·have:=bin_xor_un (k:=.u64) (a:=(2*n).toNat) (b:=0) rfl (show _<18446744073709551616 by omega) (by decide)
    rw[Nat.xor_zero] at this
    rw[this]
    congr 2
    unfold zig
    rw[if_neg h0]
   ·rw[shr63]
    congr 2
    omega
   ·rfl
 obtain⟨u,v,w,k1,k2,k3,q,k4,k5⟩:=key
 simp[k1,k2,k3,k4,k5,qaq,allKnown,-qhq]
 refine (encNat_spec hz).mono fun r B ⟨x,ho⟩=>?_
 simp[ho.sl.known]
 exact⟨x,ho⟩
section
variable {D:Disp} {G0:Env} {X:Calls'} {A0:St}
theorem xor_i64_zero {a:Nat} (h:a<2^63):binOf .xor (.int .i64 (a:Int)) (.int .i64 0)=some (.int .i64 (a:Int)):=by
 have e:binOf .xor (.int .i64 (a:Int)) (.int .i64 0)=some (.int .i64 (IntKind.i64.wrap (BitVec.ofInt 64 a ^^^ BitVec.ofInt 64 0).toNat)):=rfl
 rw[e,BitVec.toNat_xor,ofInt_nat,show (BitVec.ofInt 64 0).toNat=0 from rfl,Nat.xor_zero,Nat.mod_eq_of_lt (by omega),qDq (by omega)]
theorem xor_i64_ones {a:Nat} (h:a<2^63):binOf .xor (.int .i64 (a:Int)) (.int .i64 (-1))=some (.int .i64 (-1 - (a:Int))):=by
 have e:binOf .xor (.int .i64 (a:Int)) (.int .i64 (-1))=some (.int .i64 (IntKind.i64.wrap (BitVec.ofInt 64 a ^^^ BitVec.ofInt 64 (-1)).toNat)):=rfl
 have h1:(BitVec.ofInt 64 (-1)).toNat=18446744073709551615:=by decide
 have h2:IntKind.i64.wrap ((18446744073709551615 - a:Nat):Int)=-1 - (a:Int):=by rw[IntKind.wrap_i64];omega
 rw[e,BitVec.toNat_xor,ofInt_nat,h1,Nat.mod_eq_of_lt (show a<2^64 by omega),xor_ones _ (by omega),h2]
theorem signed_spec {A:St} {u:Nat} (hu:u<18446744073709551616):Ev D G0 fnsL X 354 [.int .u64 u] A fun r B=>A=B∧r=.int .i64 (zag u):=by
 refine Ev.fnK (fn:=a354) rfl ⟨by simp[a354],by decide⟩ ?_
 unfold a354
 have es:binOf .shr (.int .u64 (u:Int)) (.int .u64 1)=some (.int .u64 ((u / 2:Nat):Int)):=bin_shr_nat (k:=.u64) (j:=.u64) (a:=u) (s:=1) (by decide)
 have ec:convV .i64 (.int .u64 ((u / 2:Nat):Int))=some (.int .i64 ((u / 2:Nat):Int)):=by rw[qhq,qDq (by omega)]
 have ea:binOf .and (.int .u64 (u:Int)) (.int .u64 1)=some (.int .u64 ((u % 2:Nat):Int)):=by
  have:=bin_and_un (k:=.u64) (a:=u) (b:=1) rfl hu (by decide)
  rw[Nat.and_one_is_mod] at this
  exact this
 have hm:u % 2=0∨u % 2=1:=by omega
 rcases hm with hm|hm
 ·have ex:=xor_i64_zero (a:=u / 2) (by omega)
  rw[hm] at ea
  have hz:zag u=((u / 2:Nat):Int):=by unfold zag;rw[if_neg (by omega)]
  rw[hz]
  generalize u / 2=q at *
  simp at ea
  have ec0:convV .i64 (.int .u64 0)=some (.int .i64 0):=rfl
  have ec1:convV .i64 (.int .u64 1)=some (.int .i64 1):=rfl
  have en0:unOf .neg (.int .i64 0)=some (.int .i64 0):=rfl
  have en1:unOf .neg (.int .i64 1)=some (.int .i64 (-1)):=rfl
  simp[es,ec,ec0,ec1,ea,ex,en0,en1,-qhq]
 ·have ex:=xor_i64_ones (a:=u / 2) (by omega)
  rw[hm] at ea
  have hz:zag u=-1 - ((u / 2:Nat):Int):=by unfold zag;rw[if_pos hm]
  rw[hz]
  generalize u / 2=q at *
  simp at ea
  have ec0:convV .i64 (.int .u64 0)=some (.int .i64 0):=rfl
  have ec1:convV .i64 (.int .u64 1)=some (.int .i64 1):=rfl
  have en0:unOf .neg (.int .i64 0)=some (.int .i64 0):=rfl
  have en1:unOf .neg (.int .i64 1)=some (.int .i64 (-1)):=rfl
  simp[es,ec,ec0,ec1,ea,ex,en0,en1,-qhq]
theorem inNum_spec {lo:Nat} {A:St} {p:Nat} {b:List UInt8} {st:RdS} (h:InR A0 lo A p b st) :
  Ev D G0 fnsL X 276 [.ptr (some (p,0,0))] A fun r B=>r=.int .i64 (numS st).1∧Mod (fun f=>f=p) A B∧InR A0 lo B p b (numS st).2:=by
 refine Ev.fnK (fn:=a276) rfl ⟨by simp[a276],by decide⟩ ?_
 unfold a276
 simp[qaq,allKnown]
 refine (inNat_spec h).mono fun r B ⟨hr,hm,hi⟩=>?_
 subst hr
 simp[qaq,allKnown]
 refine (signed_spec (natS_lt st)).mono fun r B2 ⟨hB,hr⟩=>?_
 subst hB hr
 simp[numS]
 exact⟨hm,hi⟩
theorem of_spec {A:St} {s:AV} {b:List UInt8} (hs:Sl A 1 s (bytesV b)) (hb:b.length<2^40) (hg:A0.Ext A) :
  Ev D G0 fnsL X 166 [s] A fun r B=>r=.ptr (some (A.next,0,0))∧A.Ext B∧B.next=A.next+1∧InR A0 (A.next+1) B A.next b (some b):=by
 refine Ev.fnK (fn:=a166) rfl ⟨by simp[a166],by decide⟩ ?_
 unfold a166
 simp[fillA,hs.notBot,hs.cells,splice,boxV,Made.value,show (AV.agg [s,.int .i64 0,.nilIface]).cells=[s,.int .i64 0,.nilIface] from rfl]
 have x:=qdq A [s,.int .i64 0,.nilIface] 1
 have hc:=Cl.make A [s,.int .i64 0,.nilIface]
 have hn:(A.make [s,.int .i64 0,.nilIface] 1).2.next=A.next+1:=rfl
 generalize (A.make [s,.int .i64 0,.nilIface] 1).2=B at *
 refine⟨x,hn,hg.trans x,hg.next,Nat.lt_succ_self _,by omega,s,.nilIface,0,⟨hc,Sl.ext x hs,fun f hf=>Sl.into_lt hs hf,Nat.zero_le _,hb⟩,rfl,rfl⟩
theorem err_spec (HX:RowsX X A0) {lo:Nat} {A:St} {p:Nat} {b:List UInt8} {st:RdS} (h:InR A0 lo A p b st) :
  Ev D G0 fnsL X 168 [.ptr (some (p,0,0))] A fun r B=>A=B∧∃ c:Int,r=.int .i64 c∧(c=0↔st.isSome=true):=by
 refine Ev.fnK (fn:=a168) rfl ⟨by simp[a168],by decide⟩ ?_
 unfold a168
 obtain⟨s,e,i,hC,he⟩:=h.ex
 have l2:=hC.cl.ld 2 (v:=e) rfl
 cases st with
 | some l=>
  obtain⟨rfl,_⟩:=he
  simp[AV.addr,l2,eqV,eqOf,qaq,allKnown]
  refine (qvq HX h.glob (EV.nil A)).mono fun r B ⟨hB,hr⟩=>?_
  subst hB hr
  simp
 | none=>
  obtain⟨t,v,c,rfl,hc,hF⟩:=he
  simp[AV.addr,l2,eqV,eqOf,qaq,allKnown]
  refine (qvq HX h.glob hF.is).mono fun r B ⟨hB,hr⟩=>?_
  subst hB hr
  simp[hc]
theorem end_spec (HX:RowsX X A0) {lo:Nat} {A:St} {p:Nat} {b:List UInt8} {st:RdS} (h:InR A0 lo A p b st) :
  Ev D G0 fnsL X 277 [.ptr (some (p,0,0))] A fun r B=>Mod (fun f=>f=p) A B∧∃ c:Int,r=.int .i64 c∧(c=0↔st=some []):=by
 refine Ev.fnK (fn:=a277) rfl ⟨by simp[a277],by decide⟩ ?_
 unfold a277
 obtain⟨s,e,i,hC,he⟩:=h.ex
 have l0:=hC.cl.ld 0 (v:=s) rfl
 have l1:=hC.cl.ld 1 (v:=.int .i64 i) rfl
 have l2:=hC.cl.ld 2 (v:=e) rfl
 have hlen:=hC.sl.lenV1
 rw[qFq] at hlen
 have el:=qoq .i64 i b.length
 cases st with
 | none=>
  obtain⟨t,v,c,rfl,hc,hF⟩:=he
  simp
  refine Wp.draws ?_
  simp[AV.addr,l2,eqV,eqOf,InAll,AV.beq,qaq,allKnown]
  refine (err_spec HX h).mono fun r B ⟨hB,c',hr,hc'⟩=>?_
  subst hB hr
  simp at hc'
  simp[hc']
  exact Mod.refl A
 | some l=>
  obtain⟨rfl,hl⟩:=he
  simp
  refine Wp.draws ?_
  simp[AV.addr,l0,l1,l2,hlen,el,eqV,eqOf,InAll,AV.beq,hC.sl.beq,-qjq]
  refine qeq (fun hc=>?_) (fun hc=>?_)
  ·simp at hc
   simp[AV.addr,l1,qaq,allKnown]
   refine (fail_spec hC hC.le (by decide)).mono fun r B ⟨hr,m,q,hC2,hF⟩=>?_
   subst hr
   have g:=glob_mod h.glob h.base m
   have hi:InR A0 lo B p b none:=⟨g,h.base,h.low,Nat.le_trans h.top m.next,s,_,i,hC2,_,q,6,rfl,by decide,hF.mono h.top⟩
   simp[qaq,allKnown]
   refine (err_spec HX hi).mono fun r B2 ⟨hB,c',hr,hc'⟩=>?_
   subst hB hr
   simp at hc'
   have hne:l≠[]:=by rw[hl];intro h0;have:=congrArg List.length h0;simp at this;omega
   simp[hc',hne]
   exact m
  ·simp at hc
   simp[qaq,allKnown]
   refine (err_spec HX h).mono fun r B ⟨hB,c',hr,hc'⟩=>?_
   subst hB hr
   simp at hc'
   have hnil:l=[]:=by rw[hl];exact List.drop_eq_nil_of_le hc
   simp[hc',hnil]
   exact Mod.refl A
end
end Go.Proofs.YtlaoookdegmnnaaGreatDoor
namespace Go.AM

section
variable {A B:St} {f:Nat} {cs:List AV}
end

theorem cells_field {A:St} {p:Pl} {n:Nat} {cs:List AV} (h:A.cells p n=some cs) {o:Nat} {v:AV} (hv:cs[o]?=some v):loadV A 1 false (AV.addr p o)=some v:=by
 unfold St.cells at h
 split at h
 ·rename_i ds x nv ro hl
  split at h
  ·rename_i hc
   cases h
   have hlt:=(List.getElem?_eq_some_iff.1 hv).1
   simp only[List.length_take,List.length_drop] at hlt
   have hg:(ds.drop (p.2.2+o)).take 1=[v]:=by
    rw[List.getElem?_take_of_lt (by omega),List.getElem?_drop] at hv
    have h3:=List.getElem?_eq_some_iff.1 hv
    rw[List.drop_eq_getElem_cons h3.1,List.take_succ_cons,h3.2]
    rfl
   have hlk:A.look (p.1,p.2.1,p.2.2+o)=A.look p:=rfl
   unfold loadV AV.addr St.cells
   dsimp only
   rw[hlk,hl]
   dsimp only
   rw[if_pos ⟨by omega,by omega,by omega⟩]
   simp only[hg]
   rfl
  ·cases h
 ·cases h
structure Rec (α:Type) (n:Nat) where
 cells:α→List AV
 len:∀ x,(cells x).length=n
 flat:∀ x,(cells x).all AV.flat=true
 pos:n≠0
section
variable {α:Type} {n:Nat} {R:Rec α n}
def Rec.all (R:Rec α n):List α→List AV
 | []=>[]
 | o::l=>R.cells o++R.all l
theorem Rec.append (R:Rec α n):∀ (l r:List α),R.all (l++r)=R.all l++R.all r
 | [],r=>rfl
 | o::l,r=>by simp only[List.cons_append,Rec.all,R.append l r,List.append_assoc]
theorem Rec.length (R:Rec α n):∀ l:List α,(R.all l).length=l.length*n
 | []=>by simp[Rec.all]
 | o::l=>by simp only[Rec.all,List.length_append,R.length l,R.len,List.length_cons,Nat.add_mul];omega
theorem Rec.take (R:Rec α n):∀ (l:List α) (k:Nat),(R.all l).take (k*n)=R.all (l.take k)
 | [],k=>by simp[Rec.all]
 | o::l,0=>by simp[Rec.all]
 | o::l,k+1=>by
  simp only[Rec.all,List.take_succ_cons]
  rw[show (k+1)*n=(R.cells o).length+k*n by rw[R.len,Nat.add_mul];omega,List.take_length_add_append,R.take l k]
theorem Rec.at (R:Rec α n):∀ {l:List α} {j:Nat} {o:α},l[j]?=some o→((R.all l).drop (j*n)).take n=R.cells o
 | [],_,_,h=>by simp at h
 | x::l,0,o,h=>by
  simp at h
  subst h
  simp only[Rec.all,Nat.zero_mul,List.drop_zero]
  rw[List.take_append_of_le_length (by rw[R.len];exact Nat.le_refl _),List.take_of_length_le (by rw[R.len];exact Nat.le_refl _)]
 | x::l,j+1,o,h=>by
  simp only[List.getElem?_cons_succ] at h
  simp only[Rec.all]
  rw[show (j+1)*n=(R.cells x).length+j*n by rw[R.len,Nat.add_mul];omega,List.drop_length_add_append]
  exact R.at h
theorem Rec.allFlat (R:Rec α n):∀ l:List α,(R.all l).all AV.flat=true
 | []=>rfl
 | o::l=>by simp only[Rec.all,List.all_append,R.allFlat l,Bool.and_true];exact R.flat o
variable {A:St} {s:AV} {l:List α}
theorem Sl.rec_len (h:Sl A n s (R.all l)):s.slen=l.length:=by
 have:=h.length
 rw[R.length] at this
 exact (Nat.eq_of_mul_eq_mul_right (Nat.pos_of_ne_zero R.pos) this).symm
theorem Sl.rec_lenV (h:Sl A n s (R.all l)):AM.lenV s=some (.int .i64 l.length):=by rw[h.lenV,h.rec_len]
theorem Sl.rec_at (h:Sl A n s (R.all l)) {j:Nat} {o:α} (hj:l[j]?=some o) (k:IntKind) :
  ∃ p,atSliceV n s (.int k j)=some (.ptr (some p))∧loadV A n true (.ptr (some p))=some (.agg (R.cells o)):=by
 have hlt:=(List.getElem?_eq_some_iff.1 hj).1
 obtain⟨p,h1,h2⟩:=h.at (k:=k) (j:=j) (by rw[h.rec_len];exact hlt)
 refine⟨p,h1,?_⟩
 rw[R.at hj] at h2
 simp[loadV,h2]
theorem own_rec (R:Rec α n) (A:St) (o:α):Own A.next (A.make (R.cells o) n).2 n (.slice (some (A.next,0,0)) 0 1 1 0) (R.all [o]):=by
 have:=qtq A (cs:=R.cells o) (sz:=n) (n:=1) (by rw[R.len];omega) (Nat.le_refl _) (len:=1) (Nat.le_refl _)
 rw[List.take_of_length_le (by rw[R.len];omega)] at this
 simpa[Rec.all] using this
theorem append_rec {A0:St} {bytes:Nat} (h:Own A0.next A n s (R.all l)) (x:A0.Ext A) (hl:(l.length+1)*bytes≤70368744177664) (hl':l.length+1≤70368744177664) (o:α) :
  ∃ s' B,appendV (A.make (R.cells o) n).2 false n bytes s (.slice (some (A.next,0,0)) 0 1 1 0)=some (s',B)∧Own A0.next B n s' (R.all (l++[o]))∧A0.Ext B:=by
 have hx:=qdq A (R.cells o) n
 have h1:=h.ext hx
 have h2:=(own_rec R A o).sl
 have hn:s.slen=l.length:=h.sl.rec_len
 obtain⟨s',B,g1,g2,g3,g4,g5⟩:=qpq (bytes:=bytes) h1 h2 (Nat.le_trans x.next hx.next) R.pos (R.allFlat _) (by rw[hn,qnq];exact hl) (by rw[hn,qnq];exact hl')
 exact⟨s',B,g1,by rw[R.append];exact g3,g4.ext (x.trans hx) h1⟩
end

structure RowD where
 key:List UInt8
 n:Int
section
variable {H:Type} {P:Program} {A:St}
theorem rdAll_rec {α:Type} {m:Nat} {R:Rec α m} {ok:α→Prop} {n:Nat} {t:TypeId} (T:∀ {l:List AV} {d:DataW H},ARd P A n t l d→∃ o:α,ok o∧l=R.cells o):∀ {cap:Nat} {cs:List AV} {ds:List (DataW H)},rdAll (ARd P A n) (List.replicate cap t) cs ds→∃ l:List α,(∀ o∈l,ok o)∧cs=R.all l∧l.length=cap
 | 0,cs,ds,h=>by
  obtain⟨rfl,_⟩:=h
  exact⟨[],(by simp),rfl,rfl⟩
 | cap+1,cs,ds,h=>by
  rw[List.replicate_succ] at h
  obtain⟨l1,l2,d,ds',rfl,rfl,h2,h3⟩:=h
  obtain⟨l,hl,rfl,hc⟩:=rdAll_rec T h3
  obtain⟨o,ho,rfl⟩:=T h2
  refine⟨o::l,fun x hx=>?_,rfl,by simp[hc]⟩
  rcases List.mem_cons.1 hx with rfl|hx
  ·exact ho
  ·exact hl x hx
theorem argRecs {α:Type} {m:Nat} {R:Rec α m} {ok:α→Prop} {u t:TypeId} (hu:P.underlying u=some (.slice t)) (h4:P.cellsOf t=m) (T:∀ {n:Nat} {l:List AV} {d:DataW H},ARd P A n t l d→∃ o:α,ok o∧l=R.cells o) {a:AV} {d:DataW H} (h:ARdV P A u a d) :
  ∃ l:List α,(∀ o∈l,ok o)∧Sl A m a (R.all l)∧l.length≤maxLen:=by
 obtain⟨n,l,h3,h5⟩:=h
 rw[hu] at h5
 cases n with
 | zero=>exact h3.elim
 | succ n=>
  unfold ARd at h3
  rw[hu] at h3
  rcases h3 with ⟨rfl,_⟩|⟨k,rfl,_⟩|⟨f,len,cap,cs,ds,sp,rfl,hf,hc,hmx,hg,_,hl,hcap,hcs,hall⟩
  ·cases h5;exact⟨[],by simp,.nil _ _ _,Nat.zero_le _⟩
  ·cases h5;exact⟨[],by simp,.nil _ _ _,Nat.zero_le _⟩
  ·cases h5
   obtain⟨l,ho,rfl,hlen⟩:=rdAll_rec T hall
   rw[List.length_append] at hcap
   rw[h4] at hg hcs
   refine⟨l.take len,fun o h=>ho o (List.mem_of_mem_take h),?_,by rw[List.length_take];omega⟩
   rw[←R.take]
   refine .mem hf ?_ (.inl ⟨rfl,by omega⟩)
   have:=Nat.mul_le_mul_right m (show len≤cap by omega)
   have hcs':(R.all l).length=cap*m:=hcs
   unfold St.cells St.look
   dsimp only
   rw[hg]
   simp[findVer]
   omega
end
open Go.Sort Go.Proofs Go.Shelf

section
variable {P:Program} {F:Fr} {m:Mu} {A B:St} {w:World} {α:Type} [Inhabited α]
theorem sortX_ok {f:FuncId} {dec:List AV→Option (List α)} {enc:α→AV} {le:α→α→Bool} {encV:α→Value} (hdec:∀ l zs,dec l=some zs→l=zs.map enc) (henc:∀ m z,cvo m (enc z)=some (encV z)) (lev:α→α→Bool) (hle:∀ l:List α,l.mergeSort lev=sortB le l)
  (hnone:∀ (p:Option Addr) (cap:Nat) (w:World),Calls P f #[.slice p 0 cap] w fun e w'=>e=.returned (.tuple #[])∧w'=w)
  (hsort:∀ (blk off cap:Nat) (zs:List α) (w:World),Holds encV w blk off zs.toArray→blk<w.heap.size→zs.length<4611686018427387904→Calls P f #[.slice (some ⟨blk,off,none⟩) zs.length cap] w fun e w'=>
   e=.returned (.tuple #[])∧∃ n os,w'=grow (putRow encV (Sort.ahead w n) blk off (zs.mergeSort lev).toArray) os)
  {s r:AV} (h:sortX dec enc le A s=some (r,B)) (R:Rel F m A w) {cargs:List Value} (hc:cvos m [s]=some cargs):CallOk P F m r B f cargs.toArray w:=by
 simp only[cvos] at hc
 split at hc
 rotate_left
 ·cases hc
 rename_i c cs hcs hnil
 cases hnil
 cases hc
 have hah:∀ n,Rel F m A (Sort.ahead w n):=fun n=>R.sameHeap rfl rfl rfl
 unfold sortX at h
 split at h
 ·rename_i po cap q
  simp only[Option.some.injEq,Prod.mk.injEq] at h
  obtain⟨rfl,rfl⟩:=h
  obtain⟨b,l,k,g1,g2,g3⟩:=nilSlice_cases rfl (.inr hcs)
  have hl:=g3 rfl
  subst hl
  subst g1
  refine (hnone b k w).mono fun e w' ⟨h1,h2⟩=>?_
  subst h1;subst h2
  exact⟨.tuple #[],m,rfl,Mu.le_refl m,R,rfl⟩
 ·rename_i p po len cap q
  obtain⟨bs,cap',k1,k2,k3,k4⟩:=slice_sound rfl (.inr hcs)
  split at h
  ·rename_i h0
   simp only[Option.some.injEq,Prod.mk.injEq] at h
   obtain⟨rfl,rfl⟩:=h
   subst h0
   subst k1
   refine (hnone (some bs) cap' w).mono fun e w' ⟨h1,h2⟩=>?_
   subst h1;subst h2
   exact⟨.tuple #[],m,rfl,Mu.le_refl m,R,rfl⟩
  rename_i hlen
  split at h
  ·cases h
  rename_i hbig
  split at h
  rotate_left
  ·cases h
  rename_i l hl
  split at h
  rotate_left
  ·cases h
  rename_i zs hzs
  split at h
  rotate_left
  ·cases h
  rename_i B' hw
  simp only[Option.some.injEq,Prod.mk.injEq] at h
  obtain⟨rfl,rfl⟩:=h
  have hl2:=hdec l zs hzs
  have hpl:=k3 (by omega)
  obtain⟨b,ofs,ys,g1,g2,g3,g4⟩:=R.cells hl
  rw[hpl] at g1
  cases g1
  subst k1
  have hmap:∀ (m:Mu) (zs:List α),cvos m (zs.map enc)=some (zs.map encV):=fun m zs=>by
   induction zs with
   | nil=>rfl
   | cons z zs ih=>simp only[List.map_cons,cvos,henc,ih]
  rw[hl2,hmap] at g2
  cases g2
  rw[List.length_map] at g3
  have hsp:=(qrq le zs).length_eq
  obtain⟨b2,o2,j1,j2,j3,j4⟩:=R.write hw (hmap m _)
  rw[hpl] at j1
  cases j1
  have hholds:Holds encV w b ofs zs.toArray:=fun j hj=>by
   have hj':j<zs.length:=by simpa using hj
   refine⟨?_,(j2 j (by rw[List.length_map,hsp];exact hj')).2⟩
   have:=g4 j (encV zs[j]) (by rw[List.getElem?_map,List.getElem?_eq_getElem hj'];rfl)
   rw[this]
   simp[hj']
  have hblk:b<w.heap.size:=by
   have h0:=g4 0 (encV (zs[0]'(by omega))) (by rw[List.getElem?_map,List.getElem?_eq_getElem (by omega)];rfl)
   rcases Nat.lt_or_ge b w.heap.size with h|h
   ·exact h
   ·unfold World.cell? at h0
    rw[Array.getElem?_eq_none h] at h0
    cases h0
  subst g3
  refine (hsort b ofs cap' zs w hholds hblk (by omega)).mono fun e w' ⟨h1,n,os,h2⟩=>?_
  subst h1;subst h2
  obtain⟨b3,o3,i1,i2,i3,i4⟩:=(hah n).write hw (hmap m _)
  rw[hpl] at i1
  cases i1
  refine⟨.tuple #[],m,rfl,Mu.le_refl m,?_,rfl⟩
  rw[putRow_set,hle]
  exact i4.grown os
 ·cases h
end

section
variable {P:Program} {ρ:Ren}
theorem ok_sortI (Ly:SlLaysM.n5 P ρ) {M0:Mu} {A B:St} {s r:AV} (h:sortIX A s=some (r,B)):∀ F m w cargs,M0.le m→Rel F m A w→cvos m [s]=some cargs→CallOk P F m r B (ρ.f 5) cargs.toArray w:=fun F m w cargs _ R hc=>
 sortX_ok (fun _ _=>intsOf_eq) (encV:=Value.int .i64) (fun _ _=>rfl) (fun x y=>decide (x≤y)) (fun l=>sortI_eq (List.Perm.refl l)) (fun p cap w=>AnyM.slices_Sort_int_none Ly p cap w) (fun blk off cap zs w h1 h2 h3=>AnyM.slices_Sort_int Ly blk off cap zs w h1 h2 h3) h R hc
end

structure ChD where
 key:List UInt8
 n:Int
 there:Bool
def ChD.row (x:ChD):RowD:=⟨x.key,x.n⟩
def withL:List RowD→ChD→List RowD
 | [],x=>if x.there then [x.row] else []
 | r::l,x=>if r.key=x.key then (if x.there then x.row::l else l) else if bytesLess x.key r.key=true then (if x.there then x.row::r::l else r::l) else r::withL l x
def okC (x:ChD):Bool:=decide (x.key.length≤16)&&(x.there||decide (x.n=0))
def foldC:List RowD→List ChD→Option (List RowD)
 | rows,[]=>some rows
 | rows,x::l=>if 256<(withL rows x).length then none else foldC (withL rows x) l
def applyL (rows:List RowD) (l:List ChD):Int × List RowD:=
 if l.all okC=true then (match foldC rows l with|some r=>(0,r)|none=>(5,rows)) else (2,rows)

theorem leB_trans {a b c:List UInt8} (h1:leS a b=true) (h2:leS b c=true):leS a c=true:=by
 rw[leS_eq,decide_eq_true_eq] at *
 exact List.le_trans h1 h2
theorem leB_anti {a b:List UInt8} (h1:leS a b=true) (h2:leS b a=true):a=b:=by
 rw[leS_eq,decide_eq_true_eq] at *
 exact List.le_antisymm h1 h2
theorem leB_total (a b:List UInt8):(leS a b||leS b a)=true:=by
 rw[leS_eq,leS_eq]
 rcases List.le_total a b with h|h<;>simp[h]
theorem qEq (a:List UInt8):bytesLess a a=false:=by
 cases h:bytesLess a a with
 | false=>rfl
 | true=>
  have h1:leS a a=false:=by unfold leS;rw[h];rfl
  have h2:=leB_total a a
  rw[h1] at h2
  cases h2
theorem less_asymm {a b:List UInt8} (h:bytesLess a b=true):bytesLess b a=false:=by
 have h1:leS b a=false:=by unfold leS;rw[h];rfl
 have h2:=leB_total b a
 rw[h1] at h2
 have h3:leS a b=true:=by simpa using h2
 unfold leS at h3
 simpa using h3
theorem less_trans {a b c:List UInt8} (h1:bytesLess a b=true) (h2:bytesLess b c=true):bytesLess a c=true:=by
 have q1:leS a b=true:=by unfold leS;rw[less_asymm h1];rfl
 have q2:leS b c=true:=by unfold leS;rw[less_asymm h2];rfl
 have q3:=leB_trans q1 q2
 cases h:bytesLess a c with
 | true=>rfl
 | false=>
  have q4:leS c a=true:=by unfold leS;rw[h];rfl
  have:=leB_anti q3 q4
  subst this
  rw[less_asymm h1] at h2
  cases h2
theorem less_total {a b:List UInt8} (hne:a≠b) (h:bytesLess a b=false):bytesLess b a=true:=by
 cases h2:bytesLess b a with
 | true=>rfl
 | false=>
  have q1:leS a b=true:=by unfold leS;rw[h2];rfl
  have q2:leS b a=true:=by unfold leS;rw[h];rfl
  exact absurd (leB_anti q1 q2) hne
def Up (l:List RowD):Prop:=l.Pairwise (fun a b=>bytesLess a.key b.key=true)
theorem with_mem:∀ {l:List RowD} {x:ChD} {r:RowD},r∈withL l x→r∈l∨(x.there=true∧r=x.row)
 | [],x,r,h=>by
  unfold withL at h
  split at h
  ·rename_i ht;exact .inr ⟨ht,List.mem_singleton.1 h⟩
  ·cases h
 | q::l,x,r,h=>by
  unfold withL at h
  split at h
  ·split at h
   ·rename_i ht
    rcases List.mem_cons.1 h with h|h
    ·exact .inr ⟨ht,h⟩
    ·exact .inl (List.mem_cons_of_mem _ h)
   ·exact .inl (List.mem_cons_of_mem _ h)
  ·split at h
   ·split at h
    ·rename_i ht
     rcases List.mem_cons.1 h with h|h
     ·exact .inr ⟨ht,h⟩
     ·exact .inl h
    ·exact .inl h
   ·rcases List.mem_cons.1 h with h|h
    ·exact .inl (by rw[h];exact List.mem_cons_self)
    ·rcases with_mem h with h|h
     ·exact .inl (List.mem_cons_of_mem _ h)
     ·exact .inr h
theorem with_up:∀ {l:List RowD} {x:ChD},Up l→Up (withL l x)
 | [],x,h=>by
  unfold withL
  split
  ·exact List.pairwise_singleton _ _
  ·exact List.Pairwise.nil
 | q::l,x,h=>by
  have h':=List.pairwise_cons.1 h
  unfold withL
  split
  ·rename_i hk
   split
   ·refine List.pairwise_cons.2 ⟨fun r hr=>?_,h'.2⟩
    show bytesLess x.key r.key=true
    rw[←hk]
    exact h'.1 r hr
   ·exact h'.2
  ·rename_i hk
   split
   ·rename_i hlt
    split
    ·refine List.pairwise_cons.2 ⟨fun r hr=>?_,h⟩
     show bytesLess x.key r.key=true
     rcases List.mem_cons.1 hr with rfl|hr
     ·exact hlt
     ·exact less_trans hlt (h'.1 r hr)
    ·exact h
   ·rename_i hlt
    refine List.pairwise_cons.2 ⟨fun r hr=>?_,with_up h'.2⟩
    rcases with_mem hr with hr|⟨_,rfl⟩
    ·exact h'.1 r hr
    ·exact less_total (a:=x.key) (b:=q.key) (fun e=>hk e.symm) (by simpa using hlt)
theorem fold_up:∀ {c:List ChD} {l r:List RowD},Up l→foldC l c=some r→Up r
 | [],l,r,h,e=>by cases e;exact h
 | x::c,l,r,h,e=>by
  unfold foldC at e
  split at e
  ·cases e
  ·exact fold_up (with_up h) e
theorem fold_len:∀ {c:List ChD} {l r:List RowD},l.length≤256→foldC l c=some r→r.length≤256
 | [],l,r,h,e=>by cases e;exact h
 | x::c,l,r,h,e=>by
  unfold foldC at e
  split at e
  ·cases e
  ·exact fold_len (by omega) e
theorem fold_append:∀ {a b:List ChD} {l:List RowD},foldC l (a++b)=(match foldC l a with|some r=>foldC r b|none=>none)
 | [],b,l=>rfl
 | x::a,b,l=>by
  show (if 256<(withL l x).length then none else foldC (withL l x) (a++b))=_
  rw[fold_append,show foldC l (x::a)=if 256<(withL l x).length then none else foldC (withL l x) a from rfl]
  split<;>rfl
theorem with_snoc:∀ {l:List RowD} {r:RowD},Up (l++[r])→withL l ⟨r.key,r.n,true⟩=l++[r]
 | [],r,_=>rfl
 | q::l,r,h=>by
  have h':=List.pairwise_cons.1 h
  have hq:=h'.1 r (by simp)
  unfold withL
  rw[if_neg (fun e=>by rw[e,qEq] at hq;cases hq),if_neg (by rw[show bytesLess (ChD.mk r.key r.n true).key q.key=false from less_asymm hq];simp),with_snoc h'.2]
  rfl
def chOf (r:RowD):ChD:=⟨r.key,r.n,true⟩
theorem fold_rows:∀ {b a:List RowD},Up (a++b)→(a++b).length≤256→foldC a (b.map chOf)=some (a++b)
 | [],a,_,_=>by simp[foldC]
 | r::b,a,h,hl=>by
  have hab:a++r::b=(a++[r])++b:=by simp
  rw[hab] at h hl
  have h1:Up (a++[r]):=(List.pairwise_append.1 h).1
  rw[List.map_cons]
  unfold foldC
  rw[show withL a (chOf r)=a++[r] from with_snoc h1,if_neg (by simp at hl ⊢;omega),fold_rows h hl,hab]

def yesB (b:Bool):List UInt8:=[if b then 1 else 0]
def yesS:RdS→Bool × RdS
 | none=>(false,none)
 | some []=>(false,none)
 | some (c::l)=>if 1<c.toNat then (false,none) else (decide (c.toNat=1),some l)
theorem yesS_yesB (b:Bool) (r:List UInt8):yesS (some (yesB b++r))=(b,some r):=by cases b<;>rfl
def encCh (x:ChD):List UInt8:=strB x.key++(yesB x.there++(if x.there then numB x.n else []))
def encChs:List ChD→List UInt8
 | []=>[]
 | x::l=>encCh x++encChs l
def encC (l:List ChD):List UInt8:=natB l.length++encChs l
def chS (s:RdS):ChD × RdS:=
 let a:=strS 16 s
 let b:=yesS a.2
 let c:=if b.1 then numS b.2 else (0,b.2)
 (⟨a.1,c.1,b.1⟩,c.2)
def chsS:Nat→RdS→List ChD × RdS
 | 0,s=>([],s)
 | _+1,none=>([],none)
 | n+1,some l=>((chS (some l)).1::(chsS n (chS (some l)).2).1,(chsS n (chS (some l)).2).2)
def decC (b:List UInt8):Option (List ChD):=
 if 4096<(natS (some b)).1 then none else
 match chsS (natS (some b)).1 (natS (some b)).2 with
 | (l,some [])=>some l
 | _=>none
theorem okC_iff {x:ChD} (h:okC x=true):x.key.length≤16∧(x.there=false→x.n=0):=by
 unfold okC at h
 rw[Bool.and_eq_true,decide_eq_true_eq,Bool.or_eq_true,decide_eq_true_eq] at h
 exact⟨h.1,fun ht=>by rcases h.2 with h|h;rw[ht] at h;cases h;exact h⟩
theorem chS_enc {x:ChD} (h:okC x=true) (hn:i64ok x.n) (r:List UInt8):chS (some (encCh x++r))=(x,some r):=by
 obtain⟨h1,h2⟩:=okC_iff h
 unfold chS encCh
 simp only[List.append_assoc,strS_strB h1 (show x.key.length<18446744073709551616 by omega),yesS_yesB]
 cases ht:x.there with
 | true=>
  simp only[if_true,numS_numB hn]
  obtain⟨k,n,t⟩:=x
  simp only at ht
  rw[ht]
 | false=>
  have:=h2 ht
  obtain⟨k,n,t⟩:=x
  simp only at ht this
  rw[ht,this]
  rfl
theorem chsS_enc:∀ {l:List ChD},(∀ x∈l,okC x=true∧i64ok x.n)→∀ r:List UInt8,chsS l.length (some (encChs l++r))=(l,some r)
 | [],_,r=>rfl
 | x::l,h,r=>by
  obtain⟨h1,h2⟩:=h x List.mem_cons_self
  have ih:=chsS_enc (l:=l) (fun y hy=>h y (List.mem_cons_of_mem _ hy)) r
  simp only[List.length_cons,encChs,List.append_assoc,chsS,chS_enc h1 h2,ih]
theorem decC_encC {l:List ChD} (h:∀ x∈l,okC x=true∧i64ok x.n) (hl:l.length≤4096):decC (encC l)=some l:=by
 unfold decC encC
 have e:=chsS_enc h []
 rw[List.append_nil] at e
 simp only[natS_natB (show l.length<18446744073709551616 by omega),e]
 rw[if_neg (by omega)]
def recB (mark:Nat) (l:List ChD):List UInt8:=natB mark++encC l
def recP (b:List UInt8):Option (Nat × List ChD):=
 match natS (some b) with
 | (m,some r)=>if 1073741824<m then none else (match decC r with|some l=>some (m,l)|none=>none)
 | _=>none
theorem recP_recB {mark:Nat} (hm:mark≤1073741824) {l:List ChD} (h:∀ x∈l,okC x=true∧i64ok x.n) (hl:l.length≤4096):recP (recB mark l)=some (mark,l):=by
 unfold recP recB
 simp only[natS_natB (show mark<18446744073709551616 by omega),decC_encC h hl]
 rw[if_neg (by omega)]
theorem encCh_length {x:ChD} (h:okC x=true) (hn:i64ok x.n):(encCh x).length≤35:=by
 have h1:=(okC_iff h).1
 have h2:=natB_length (n:=x.key.length) (by omega)
 have h3:=natB_length (zig_lt hn)
 unfold encCh strB yesB numB
 simp only[List.length_append]
 split<;>simp<;>omega
theorem encChs_length:∀ {l:List ChD},(∀ x∈l,okC x=true∧i64ok x.n)→(encChs l).length≤35*l.length
 | [],_=>Nat.zero_le _
 | x::l,h=>by
  have h1:=encCh_length (h x List.mem_cons_self).1 (h x List.mem_cons_self).2
  have h2:=encChs_length (l:=l) fun y hy=>h y (List.mem_cons_of_mem _ hy)
  simp only[encChs,List.length_append,List.length_cons]
  omega
theorem recB_length {mark:Nat} (hm:mark≤1073741824) {l:List ChD} (h:∀ x∈l,okC x=true∧i64ok x.n) (hl:l.length≤4096):(recB mark l).length≤18+35*l.length:=by
 have h1:=natB_length (n:=mark) (by omega)
 have h2:=natB_length (n:=l.length) (by omega)
 have h3:=encChs_length h
 unfold recB encC
 simp only[List.length_append]
 omega
theorem recB_ne (mark:Nat) (l:List ChD):recB mark l≠[]:=by
 unfold recB natB
 simp

def loadR (rows:List RowD) (b:List UInt8):Option (List RowD):=
 match recP b with
 | some (_,l)=>(match applyL rows l with|(0,r)=>some r|_=>none)
 | none=>none
def loadRs:List RowD→List (List UInt8)→Option (List RowD)
 | rows,[]=>some rows
 | rows,b::l=>match loadR rows b with|some r=>loadRs r l|none=>none
def hpRows (C:List UInt8 × List (List UInt8)):Option (List RowD):=
 match (if C.1=[] then some [] else loadR [] C.1) with
 | some r=>loadRs r C.2
 | none=>none
theorem loadRs_snoc:∀ {l:List (List UInt8)} {rows:List RowD} {b:List UInt8},loadRs rows (l++[b])=(match loadRs rows l with|some r=>loadR r b|none=>none)
 | [],rows,b=>by
  show (match loadR rows b with|some r=>some r|none=>none)=loadR rows b
  cases loadR rows b<;>rfl
 | c::l,rows,b=>by
  show (match loadR rows c with|some r=>loadRs r (l++[b])|none=>none)=_
  cases h:loadR rows c with
  | none=>simp only[loadRs,h]
  | some r=>simp only[loadRs,h,loadRs_snoc]
theorem hpRows_put {s:List UInt8} {R:List (List UInt8)} {rows r:List RowD} {mark:Nat} {l:List ChD} (h:hpRows (s,R)=some rows) (hm:mark≤1073741824) (hok:∀ x∈l,i64ok x.n) (hl:l.length≤4096) (ha:applyL rows l=(0,r)):hpRows (s,R++[recB mark l])=some r:=by
 have hall:∀ x∈l,okC x=true∧i64ok x.n:=fun x hx=>by
  refine⟨?_,hok x hx⟩
  unfold applyL at ha
  split at ha
  ·rename_i hc
   exact List.all_eq_true.1 hc x hx
  ·cases ha
 unfold hpRows at h ⊢
 simp only at h ⊢
 cases hs:(if s=[] then some [] else loadR [] s) with
 | none=>rw[hs] at h;cases h
 | some q=>
  rw[hs] at h
  simp only at h ⊢
  rw[loadRs_snoc,h]
  simp only[loadR,recP_recB hm hall hl,ha]
theorem hpRows_save {rows:List RowD} {mark:Nat} (hm:mark≤1073741824) (hu:Up rows) (hl:rows.length≤256) (hok:∀ r∈rows,r.key.length≤16∧i64ok r.n):hpRows (recB mark (rows.map chOf),[])=some rows:=by
 have hall:∀ x∈rows.map chOf,okC x=true∧i64ok x.n:=fun x hx=>by
  obtain⟨r,hr,rfl⟩:=List.mem_map.1 hx
  have:=hok r hr
  exact⟨by simp[okC,chOf,this.1],this.2⟩
 have ha:applyL [] (rows.map chOf)=(0,rows):=by
  unfold applyL
  rw[if_pos (List.all_eq_true.2 fun x hx=>(hall x hx).1)]
  have:=fold_rows (a:=[]) (b:=rows) (by simpa using hu) (by simpa using hl)
  rw[List.nil_append] at this
  rw[this]
 unfold hpRows
 simp only
 rw[if_neg (recB_ne _ _)]
 simp only[loadR,recP_recB hm hall (by rw[List.length_map];omega),ha,loadRs]

theorem up_ext:∀ {a b:List RowD},Up a→Up b→(∀ r,r∈a↔r∈b)→a=b
 | [],[],_,_,_=>rfl
 | [],y::b,_,_,h=>by have:=(h y).2 List.mem_cons_self;cases this
 | x::a,[],_,_,h=>by have:=(h x).1 List.mem_cons_self;cases this
 | x::a,y::b,ha,hb,h=>by
  have ha':=List.pairwise_cons.1 ha
  have hb':=List.pairwise_cons.1 hb
  have hxy:x=y:=by
   rcases List.mem_cons.1 ((h x).1 List.mem_cons_self) with e|hx
   ·exact e
   ·rcases List.mem_cons.1 ((h y).2 List.mem_cons_self) with e|hy
    ·exact e.symm
    ·have h1:=hb'.1 x hx
     have h2:=ha'.1 y hy
     rw[less_asymm h1] at h2
     cases h2
  subst hxy
  congr 1
  refine up_ext ha'.2 hb'.2 fun r=>⟨fun hr=>?_,fun hr=>?_⟩
  ·rcases List.mem_cons.1 ((h r).1 (List.mem_cons_of_mem _ hr)) with rfl|h'
   ·have:=ha'.1 r hr
    rw[qEq] at this
    cases this
   ·exact h'
  ·rcases List.mem_cons.1 ((h r).2 (List.mem_cons_of_mem _ hr)) with rfl|h'
   ·have:=hb'.1 r hr
    rw[qEq] at this
    cases this
   ·exact h'
theorem mem_with:∀ {l:List RowD} {x:ChD} {r:RowD},Up l→(r∈withL l x↔(x.there=true∧r=x.row)∨(r∈l∧r.key≠x.key))
 | [],x,r,_=>by
  unfold withL
  cases ht:x.there<;>simp
 | q::l,x,r,h=>by
  have h':=List.pairwise_cons.1 h
  have ih:=mem_with (x:=x) (r:=r) h'.2
  unfold withL
  by_cases hk:q.key=x.key
  ·have hno:∀ y∈l,y.key≠x.key:=fun y hy he=>by
    have:=h'.1 y hy
    rw[hk,he,qEq] at this
    cases this
   rw[if_pos hk]
   have hl:r∈l→r.key≠x.key:=hno r
   cases ht:x.there with
   | true=>
    simp only[if_true,List.mem_cons,true_and]
    constructor
    ·rintro (h|h)
     ·exact .inl h
     ·exact .inr ⟨.inr h,hl h⟩
    ·rintro (h|⟨rfl|h,hne⟩)
     ·exact .inl h
     ·exact absurd hk hne
     ·exact .inr h
   | false=>
    simp only[Bool.false_eq_true,if_false,false_and,false_or,List.mem_cons]
    constructor
    ·intro h
     exact⟨.inr h,hl h⟩
    ·rintro ⟨rfl|h,hne⟩
     ·exact absurd hk hne
     ·exact h
  ·rw[if_neg hk]
   by_cases hlt:bytesLess x.key q.key=true
   ·have hno:∀ y∈q::l,y.key≠x.key:=fun y hy he=>by
     rcases List.mem_cons.1 hy with rfl|hy
     ·exact hk he
     ·have:=less_trans hlt (h'.1 y hy)
      rw[he,qEq] at this
      cases this
    rw[if_pos hlt]
    have hl:r∈q::l→r.key≠x.key:=hno r
    cases ht:x.there with
    | true=>
     simp only[if_true,List.mem_cons (a:=r) (b:=x.row),true_and]
     constructor
     ·rintro (h|h)
      ·exact .inl h
      ·exact .inr ⟨h,hl h⟩
     ·rintro (h|⟨h,_⟩)
      ·exact .inl h
      ·exact .inr h
    | false=>
     simp only[Bool.false_eq_true,if_false,false_and,false_or]
     exact⟨fun h=>⟨h,hl h⟩,fun h=>h.1⟩
   ·rw[if_neg hlt,List.mem_cons,ih,List.mem_cons]
    constructor
    ·rintro (rfl|h|⟨h,hne⟩)
     ·exact .inr ⟨.inl rfl,hk⟩
     ·exact .inl h
     ·exact .inr ⟨.inr h,hne⟩
    ·rintro (h|⟨rfl|h,hne⟩)
     ·exact .inr (.inl h)
     ·exact .inl rfl
     ·exact .inr (.inr ⟨h,hne⟩)

structure EnD where
 c:ChD
 no:Int
abbrev Idx:=List (List UInt8 × EnD)
structure IdxOk (x:Idx):Prop where
 nodup:(keysA x).Nodup
 key:∀ k e,assoc k x=some e→e.c.key=k
def liveK (x:Idx) (k:List UInt8):Option ChD:=match assoc k x with
 | some e=>if e.c.there then some e.c else none
 | none=>none
def liveL (x:Idx):List ChD:=(sortB leS (keysA x)).filterMap (liveK x)
def rowsI (x:Idx):List RowD:=(liveL x).map ChD.row
theorem keys_sorted (x:Idx) (h:(keysA x).Nodup):(sortB leS (keysA x)).Pairwise (fun a b=>bytesLess a b=true):=by
 have hp:=qrq (le:=leS) (keysA x)
 have hn:(sortB leS (keysA x)).Nodup:=hp.nodup_iff.2 h
 have hs:=sortB_pairwise (le:=leS) (fun a b c=>leB_trans) (fun a b=>leB_total a b) (keysA x)
 have:=List.pairwise_and_iff.2 ⟨hs,hn⟩
 refine this.imp fun {a b} ⟨h1,h2⟩=>?_
 unfold leS at h1
 exact less_total (fun e=>h2 e.symm) (by simpa using h1)
theorem live_mem {x:Idx} {c:ChD} (h:IdxOk x):c∈liveL x↔c.there=true∧∃ e,assoc c.key x=some e∧e.c=c:=by
 unfold liveL
 rw[List.mem_filterMap]
 constructor
 ·rintro ⟨k,hk,hl⟩
  unfold liveK at hl
  split at hl
  ·rename_i e he
   split at hl
   ·rename_i ht
    cases hl
    exact⟨ht,e,by rw[h.key k e he];exact he,rfl⟩
   ·cases hl
  ·cases hl
 ·rintro ⟨ht,e,he,rfl⟩
  refine⟨e.c.key,?_,?_⟩
  ·rw[(qrq (le:=leS) (keysA x)).mem_iff]
   exact assoc_some_iff.1 (by rw[he];rfl)
  ·unfold liveK
   rw[he]
   simp[ht]
theorem filterMap_up {x:Idx} (h:IdxOk x):∀ {l:List (List UInt8)},l.Pairwise (fun a b=>bytesLess a b=true)→Up ((l.filterMap (liveK x)).map ChD.row)
 | [],_=>List.Pairwise.nil
 | k::l,hp=>by
  have hp':=List.pairwise_cons.1 hp
  have ih:=filterMap_up h hp'.2
  have keyOf:∀ k c,liveK x k=some c→c.key=k:=fun k c hc=>by
   unfold liveK at hc
   split at hc
   ·rename_i e he
    split at hc
    ·cases hc;exact h.key k e he
    ·cases hc
   ·cases hc
  rw[List.filterMap_cons]
  split
  ·exact ih
  ·rename_i c hc
   rw[List.map_cons]
   refine List.pairwise_cons.2 ⟨fun r hr=>?_,ih⟩
   obtain⟨c',hc',rfl⟩:=List.mem_map.1 hr
   obtain⟨k',hk',hl'⟩:=List.mem_filterMap.1 hc'
   show bytesLess c.key c'.key=true
   rw[keyOf k c hc,keyOf k' c' hl']
   exact hp'.1 k' hk'
theorem rowsI_up {x:Idx} (h:IdxOk x):Up (rowsI x):=filterMap_up h (keys_sorted x h.nodup)
theorem rowsI_mem {x:Idx} (h:IdxOk x) {r:RowD}:r∈rowsI x↔∃ e,assoc r.key x=some e∧e.c.there=true∧e.c.row=r:=by
 unfold rowsI
 rw[List.mem_map]
 constructor
 ·rintro ⟨c,hc,rfl⟩
  obtain⟨ht,e,he,rfl⟩:=(live_mem h).1 hc
  exact⟨e,he,ht,rfl⟩
 ·rintro ⟨e,he,ht,rfl⟩
  exact⟨e.c,(live_mem h).2 ⟨ht,e,he,rfl⟩,rfl⟩
theorem idx_put {x:Idx} (h:IdxOk x) (c:ChD) (rec:Int):IdxOk (putA c.key ⟨c,rec⟩ x):=
 ⟨nodup_put h.nodup,fun k e he=>by
  rw[assoc_put] at he
  split at he
  ·rename_i hk
   cases he
   exact hk.symm
  ·exact h.key k e he⟩
theorem rowsI_put {x:Idx} (h:IdxOk x) (c:ChD) (rec:Int):rowsI (putA c.key ⟨c,rec⟩ x)=withL (rowsI x) c:=by
 refine up_ext (rowsI_up (idx_put h c rec)) (with_up (rowsI_up h)) fun r=>?_
 rw[rowsI_mem (idx_put h c rec),mem_with (rowsI_up h),rowsI_mem h,assoc_put]
 by_cases hk:r.key=c.key
 ·rw[if_pos hk]
  constructor
  ·rintro ⟨e,he,ht,rfl⟩
   cases he
   exact .inl ⟨ht,rfl⟩
  ·rintro (⟨ht,rfl⟩|⟨_,hne⟩)
   ·exact⟨_,rfl,ht,rfl⟩
   ·exact absurd hk hne
 ·rw[if_neg hk]
  constructor
  ·intro h
   exact .inr ⟨h,hk⟩
  ·rintro (⟨_,rfl⟩|⟨h,_⟩)
   ·exact absurd rfl hk
   ·exact h
def addI (rec:Int):Idx→List ChD→Idx
 | x,[]=>x
 | x,c::l=>addI rec (putA c.key ⟨c,rec⟩ x) l
theorem addI_ok:∀ {l:List ChD} {x:Idx} {rec:Int},IdxOk x→IdxOk (addI rec x l)
 | [],_,_,h=>h
 | c::l,x,rec,h=>addI_ok (l:=l) (idx_put h c rec)
theorem addI_rows:∀ {l:List ChD} {x:Idx} {rec:Int} {r:List RowD},IdxOk x→foldC (rowsI x) l=some r→rowsI (addI rec x l)=r
 | [],_,_,_,_,h=>by cases h;rfl
 | c::l,x,rec,r,h,hf=>by
  unfold foldC at hf
  split at hf
  ·cases hf
  ·exact addI_rows (l:=l) (idx_put h c rec) (by rw[rowsI_put h];exact hf)
theorem idx_nil:IdxOk []:=⟨List.nodup_nil,fun k e h=>by cases h⟩
end Go.AM
namespace Go.Proofs.YtlaoookdegmnnaaGreatDoor
open Go.AM
def RowR:Rec RowD 2:=⟨fun r=>[.str r.key,.int .i64 r.n],fun _=>rfl,fun _=>rfl,by decide⟩
def cmpB:List UInt8→List UInt8→Int
 | [],[]=>0
 | [],_::_=>-1
 | _::_,[]=>1
 | x::a,y::c=>if x<y then -1 else if y<x then 1 else cmpB a c
theorem cmpB_lt:∀ (a c:List UInt8),cmpB a c<0↔bytesLess a c=true
 | [],[]=>by simp[cmpB,bytesLess]
 | [],_::_=>by simp[cmpB,bytesLess]
 | _::_,[]=>by simp[cmpB,bytesLess]
 | x::a,y::c=>by
  have ih:=cmpB_lt a c
  simp only[cmpB,bytesLess]
  by_cases h:x<y
  ·simp[h]
  ·rw[if_neg h]
   by_cases h2:y<x
   ·have hne:¬x=y:=fun e=>by subst e;exact h h2
    simp[h,h2,hne]
   ·have he:x=y:=by
     have h3:¬x.toNat<y.toNat:=fun e=>h (UInt8.lt_iff_toNat_lt.2 e)
     have h4:¬y.toNat<x.toNat:=fun e=>h2 (UInt8.lt_iff_toNat_lt.2 e)
     exact UInt8.toNat_inj.1 (by omega)
    rw[if_neg h2,ih]
    simp[h,he]
theorem cmpB_eq:∀ (a c:List UInt8),cmpB a c=0↔a=c
 | [],[]=>by simp[cmpB]
 | [],_::_=>by simp[cmpB]
 | _::_,[]=>by simp[cmpB]
 | x::a,y::c=>by
  have ih:=cmpB_eq a c
  simp only[cmpB]
  by_cases h:x<y
  ·have hne:¬x=y:=fun e=>by subst e;have:=UInt8.lt_iff_toNat_lt.1 h;omega
   simp[h,hne]
  ·rw[if_neg h]
   by_cases h2:y<x
   ·have hne:¬x=y:=fun e=>by subst e;exact h h2
    simp[h2,hne]
   ·have he:x=y:=by
     have h3:¬x.toNat<y.toNat:=fun e=>h (UInt8.lt_iff_toNat_lt.2 e)
     have h4:¬y.toNat<x.toNat:=fun e=>h2 (UInt8.lt_iff_toNat_lt.2 e)
     exact UInt8.toNat_inj.1 (by omega)
    rw[if_neg h2,ih]
    simp[he]
def posK (k:List UInt8):List RowD→Nat
 | []=>0
 | r::l=>if bytesLess r.key k=true then posK k l+1 else 0
theorem posK_le (k:List UInt8):∀ l:List RowD,posK k l≤l.length
 | []=>Nat.le_refl _
 | r::l=>by
  have:=posK_le k l
  simp only[posK,List.length_cons]
  split<;>omega
theorem posK_lt {k:List UInt8}:∀ {l:List RowD} {i:Nat} {r:RowD},i<posK k l→l[i]?=some r→bytesLess r.key k=true
 | [],i,r,h,_=>by simp[posK] at h
 | x::l,i,r,h,hr=>by
  simp only[posK] at h
  split at h
  ·rename_i hx
   cases i with
   | zero=>simp at hr;subst hr;exact hx
   | succ i=>exact posK_lt (l:=l) (i:=i) (by omega) (by simpa using hr)
  ·omega
theorem posK_ge {k:List UInt8}:∀ {l:List RowD} {i:Nat} {r:RowD},Up l→posK k l≤i→l[i]?=some r→bytesLess r.key k=false
 | [],i,r,_,_,hr=>by simp at hr
 | x::l,i,r,hu,h,hr=>by
  obtain⟨h1,h2⟩:=List.pairwise_cons.1 hu
  simp only[posK] at h
  split at h
  ·rename_i hx
   cases i with
   | zero=>omega
   | succ i=>exact posK_ge (l:=l) (i:=i) h2 (by omega) (by simpa using hr)
  ·rename_i hx
   have hx:bytesLess x.key k=false:=by simpa using hx
   cases i with
   | zero=>simp at hr;subst hr;exact hx
   | succ i=>
    have hm:=h1 r (List.mem_of_getElem? (by simpa using hr))
    cases hb:bytesLess r.key k with
    | false=>rfl
    | true=>rw[less_trans hm hb] at hx;cases hx
def RowsC (X:Calls'):Prop:=∀ (a c:List UInt8) (A:St),X 411 [.str a,.str c] A=some (.int .i64 (cmpB a c),A)
section
variable {D:Disp} {G0:Env} {X:Calls'} {A0:St}
theorem compare_spec (HC:RowsC X) {A:St} {a c:List UInt8}:Ev D G0 fnsL X 374 [.str a,.str c] A fun r B=>A=B∧r=.int .i64 (cmpB a c):=by
 refine Ev.fnK (fn:=a374) rfl ⟨by simp[a374],by decide⟩ ?_
 unfold a374
 simp[qaq,allKnown]
 have h401:Ev D G0 fnsL X 401 [.str a,.str c] A fun r B=>A=B∧r=.int .i64 (cmpB a c):=by
  refine Ev.fnK (fn:=a401) rfl ⟨by simp[a401],by decide⟩ ?_
  unfold a401
  simp[qaq,allKnown]
  refine Ev.ext rfl (HC a c A) ?_
  simp
 refine h401.mono fun r B ⟨h1,h2⟩=>?_
 subst h1 h2
 simp
theorem cmpRow_spec (HC:RowsC X) {A:St} {a c:List UInt8} {n:Int}:Ev D G0 fnsL X 373 [.agg [.str a,.int .i64 n],.str c] A fun r B=>A.Ext B∧r=.int .i64 (cmpB a c):=by
 refine Ev.fnK (fn:=a373) rfl ⟨by simp[a373],by decide⟩ ?_
 unfold a373
 have x1:=qdq A [.str a,.int .i64 n] 1
 have c1:=Cl.make A [.str a,.int .i64 n]
 simp[boxV,Made.value]
 generalize (A.make [.str a,.int .i64 n] 1).2=A1 at *
 have l0:=c1.ld 0 (v:=.str a) rfl
 simp[AV.addr,l0,qaq,allKnown]
 refine (compare_spec HC).mono fun r B ⟨h1,h2⟩=>?_
 subst h1 h2
 simp
 exact x1
end
section
variable {D:Disp} {G0:Env} {X:Calls'} {A0:St}
def hasK (k:List UInt8) (l:List RowD):Bool:=match l[posK k l]? with
 | some r=>decide (r.key=k)
 | none=>false
theorem search_spec (HC:RowsC X) {A:St} {s:AV} {l:List RowD} {k:List UInt8} (hs:Sl A 2 s (RowR.all l)) (hu:Up l) (hl:l.length<2^40) :
  Ev D G0 fnsL X 372 [s,.str k,.func (.func 373) [] []] A fun r B=>A.Ext B∧r=.tuple [.int .i64 (posK k l:Nat),.bool (hasK k l)]:=by
 refine Ev.fnK (fn:=a372) rfl ⟨by simp[a372],by decide⟩ ?_
 unfold a372
 have hlen:=hs.rec_lenV
 have hple:=posK_le k l
 simp[hlen]
 refine Wp.loopK (fun d E A'=>A.Ext A'∧Env.at E 0=s∧Env.at E 1=.str k∧Env.at E 2=.func (.func 373) [] []∧Env.at E 8=.int .i64 l.length∧∃ i j:Nat,Env.at E 9=.int .i64 i∧Env.at E 10=.int .i64 j∧i≤posK k l∧posK k l≤j∧j≤l.length∧i+d=j) l.length ?_ ?_
 ·exact⟨St.Ext.refl A,by simp,by simp,by simp,by simp,0,l.length,by simp,by simp,Nat.zero_le _,hple,Nat.le_refl _,by simp⟩
 rintro d E A' ⟨x,e0,e1,e2,e8,i,j,e9,e10,h1,h2,h3,hd⟩
 simp[e9,e10,qoq,-qjq]
 refine qeq (fun hc=>?_) (fun hc=>?_)
 ·simp at hc
  obtain⟨z,hz,ez⟩:=add_nat (a:=i) (b:=j) (by omega) (by omega)
  have ec:convV .u64 (.int .i64 (z:Int))=some (.int .u64 (z:Int)):=by rw[qhq,qAq rfl (show z<2^64 by omega)]
  have es:binOf .shr (.int .u64 (z:Int)) (.int .u64 1)=some (.int .u64 ((z / 2:Nat):Int)):=bin_shr_nat (k:=.u64) (j:=.u64) (a:=z) (s:=1) (by decide)
  have ec2:convV .i64 (.int .u64 ((z / 2:Nat):Int))=some (.int .i64 ((z / 2:Nat):Int)):=by rw[qhq,qDq (by omega)]
  obtain⟨h,hh⟩:∃ h,h=z / 2:=⟨_,rfl⟩
  rw[←hh] at es ec2
  have hlt:h<l.length:=by omega
  have hg:l[h]?=some l[h]:=List.getElem?_eq_getElem hlt
  obtain⟨p,g1,g2⟩:=(Sl.ext x hs).rec_at hg .i64
  try simp[-qbq] at ez
  simp[e0,e1,e2,e8,e9,e10,ez,ec,es,ec2,g1,g2,-qbq,-qhq]
  rw[ops_callv (f:=373) (first:=[]) (captured:=[]) _ _ _ _ _ (by simp) (by simp[allKnown])]
  simp
  refine (cmpRow_spec HC).mono fun r B ⟨x2,hr⟩=>?_
  subst hr
  have ecl:binOf .lss (.int .i64 (cmpB l[h].key k)) (.int .i64 0)=some (.bool (bytesLess l[h].key k)):=by
   rw[qjq]
   congr 2
   rw[Bool.eq_iff_iff,decide_eq_true_eq]
   exact cmpB_lt _ _
  have ea:=add_one (i:=h) (by omega)
  simp[-qbq] at ea
  have xx:=x.trans x2
  simp[ecl,-qjq]
  refine qeq (fun hb=>?_) (fun hb=>?_)
  ·have hp:h<posK k l:=by
    rcases Nat.lt_or_ge h (posK k l) with hh|hh
    ·exact hh
    ·rw[posK_ge hu hh hg] at hb;cases hb
   simp[ea,e0,e1,e2,e8,e10,-qbq]
   exact⟨j - (h+1),by omega,xx,h+1,by omega,j,rfl,by omega,h2,h3,by omega⟩
  ·have hp:posK k l≤h:=by
    rcases Nat.lt_or_ge h (posK k l) with hh|hh
    ·rw[posK_lt hh hg] at hb;cases hb
    ·exact hh
   simp[e0,e1,e2,e8,e9]
   exact⟨h - i,by omega,xx,i,rfl,h,rfl,h1,hp,by omega,by omega⟩
 ·simp at hc
  have hip:i=posK k l:=by omega
  have hhas:hasK k l=(match l[i]? with|some r=>decide (r.key=k)|none=>false):=by unfold hasK;rw[hip]
  rw[←hip,hhas]
  by_cases hil:i<l.length
  ·have hg:l[i]?=some l[i]:=List.getElem?_eq_getElem hil
   obtain⟨p,g1,g2⟩:=(Sl.ext x hs).rec_at hg .i64
   simp[e0,e1,e2,e8,e9,qoq,hil,g1,g2,-qjq]
   rw[ops_callv (f:=373) (first:=[]) (captured:=[]) _ _ _ _ _ (by simp) (by simp[allKnown])]
   simp
   refine (cmpRow_spec HC).mono fun r B ⟨x2,hr⟩=>?_
   subst hr
   have ece:binOf .eql (.int .i64 (cmpB l[i].key k)) (.int .i64 0)=some (.bool (decide (l[i].key=k))):=by
    rw[qqq]
    congr 2
    rw[decide_eq_decide]
    exact cmpB_eq _ _
   simp[ece,qoq,hil,-qqq,-qjq]
   exact x.trans x2
  ·have hn:l[i]?=none:=List.getElem?_eq_none (by omega)
   simp[e0,e1,e2,e8,e9,qoq,hil,hn,-qjq]
   exact x
end
end Go.Proofs.YtlaoookdegmnnaaGreatDoor
namespace Go.AM
theorem own_into {lo:Nat} {A:St} {sz:Nat} {s:AV} {cs:List AV} (h:Own lo A sz s cs) {f:Nat} (hf:s.into f=true):lo≤f∧f<A.next:=by
 cases h with
 | nil=>cases hf
 | @mem g v o po len cap q all vers nv y hlo hf' hg hv h1 h2 h3 hq=>
  have:g=f:=by simpa[AV.into] using hf
  omega
theorem Own.but {lo:Nat} {A B:St} {sz:Nat} {s:AV} {cs:List AV} (h:Own lo A sz s cs) (b:But A B s):Mod (fun f=>lo≤f) A B:=⟨b.next,fun f hf hl=>b.get f hf (by
 cases hi:s.into f with
 | false=>rfl
 | true=>exact absurd (own_into h hi).1 hl)⟩
theorem Cl.stM {A:St} {f:Nat} {cs:List AV} (h:Cl A f cs) (o:Nat) (ho:o<cs.length) {v:AV} (hf:v.flat=true) (hc:v.cells=[v]) (hb:v.isBot=false):∃ B,storeV A 1 (.ptr (some (f,0,o))) v=some (.bot,B)∧Mod (fun g=>g=f) A B∧Cl B f (cs.set o v):=by
 obtain⟨s1,s2⟩:=h.st o ho hf hc hb
 exact⟨_,s1,mod_put A f _ rfl,s2⟩
theorem Sl.cells1 {A:St} {sz:Nat} {s:AV} {cs:List AV} (h:Sl A sz s cs):s.cells=[s]∧s.isBot=false∧s.flat=true:=by cases h<;>exact⟨rfl,rfl,rfl⟩
theorem own_putE {lo:Nat} {A:St} {sz:Nat} {s:AV} {cs:List AV} (h:Own lo A sz s cs) {j o:Nat} (hj:j<s.slen) (ho:o<sz) (k:IntKind) :
  ∃ f v x,atSliceV sz s (.int k j)=some (.ptr (some (f,v,x)))∧∀ d:AV,d.flat=true→d.cells=[d]→d.isBot=false→∃ B,storeV A 1 (.ptr (some (f,v,x+o))) d=some (.bot,B)∧Own lo B sz s (cs.set (j*sz+o) d)∧But A B s:=by
 cases h with
 | nil po cap q=>simp[AV.slen] at hj
 | @mem f v o' po len cap q all vers nv y hlo hf hg hv h1 h2 h3 hq=>
  simp only[AV.slen] at hj
  have hm:j*sz+sz≤len*sz:=by
   have:=Nat.mul_le_mul_right sz (show j+1≤len from hj)
   rw[Nat.add_mul] at this
   omega
  refine⟨f,v,o'+j*sz,?_,fun d hd1 hd2 hd3=>?_⟩
  ·unfold atSliceV
   dsimp only
   rw[show index? len (.int k (j:Int))=some j by simp[index?];omega]
   simp[AV.addr]
  have hlook:A.look (f,v,o'+j*sz+o)=some (all,y,nv,false):=by
   unfold St.look;dsimp only;rw[hg];dsimp only;rw[hv];rfl
  refine⟨A.put f (.cells (splice all (o'+j*sz+o) [d]) [y] nv false),?_,?_,but_put _⟩
  ·have hw:A.write (f,v,o'+j*sz+o) [d]=some (A.put f (.cells (splice all (o'+j*sz+o) [d]) [y] nv false)):=by
    simp only[St.write,hlook]
    rw[if_pos ⟨by omega,by simp only[List.length_singleton];omega,h3,by simp[hd1]⟩]
   unfold storeV
   cases d<;>simp[AV.isBot] at hd3<;>simp only[hd2,hw]<;>rfl
  ·have hall:o'+j*sz+o<all.length:=by omega
   rw[splice_one hall]
   have e2:((all.drop o').take (len*sz)).set (j*sz+o) d=((all.set (o'+j*sz+o) d).drop o').take (len*sz):=by
    rw[List.drop_set,if_neg (by omega),List.take_set]
    congr 1
    omega
   rw[e2]
   have hy:=(qwq hv).2
   exact .mem hlo hf (by rw[St.get_put,if_pos rfl]) (by simp[findVer,hy]) h1 h2 (by rw[List.length_set];exact h3) hq
end Go.AM
namespace Go.Proofs.YtlaoookdegmnnaaGreatDoor
open Go.AM
theorem rows_set:∀ {l:List RowD} {i:Nat} {r:RowD} (n:Int),l[i]?=some r→(RowR.all l).set (i*2+1) (.int .i64 n)=RowR.all (l.set i ⟨r.key,n⟩)
 | [],i,r,n,h=>by simp at h
 | x::l,0,r,n,h=>by
  simp at h
  subst h
  rfl
 | x::l,i+1,r,n,h=>by
  have ih:=rows_set (l:=l) (i:=i) n (by simpa using h)
  rw[show (i+1)*2+1=(i*2+1)+2 by omega]
  show [AV.str x.key,AV.int .i64 x.n]++(RowR.all l).set (i*2+1) (.int .i64 n)=[AV.str x.key,AV.int .i64 x.n]++RowR.all (l.set i ⟨r.key,n⟩)
  rw[ih]
theorem has_cons {k:List UInt8} {r:RowD} {l:List RowD}:hasK k (r::l)=(if bytesLess r.key k=true then hasK k l else decide (r.key=k)):=by
 unfold hasK
 simp only[posK]
 by_cases hb:bytesLess r.key k=true
 ·simp[hb]
 ·simp[hb]
theorem has_at {k:List UInt8} {l:List RowD} (h:hasK k l=true):∃ r,l[posK k l]?=some r∧r.key=k:=by
 unfold hasK at h
 split at h
 ·rename_i r hr
  exact⟨r,hr,by simpa using h⟩
 ·cases h
theorem with_there {k:List UInt8} {n:Int}:∀ {l:List RowD},hasK k l=true→withL l ⟨k,n,true⟩=l.set (posK k l) ⟨k,n⟩
 | [],h=>by simp[hasK,posK] at h
 | r::l,h=>by
  rw[has_cons] at h
  unfold withL
  simp only[posK]
  by_cases hb:bytesLess r.key k=true
  ·rw[if_pos hb] at h
   have hne:¬r.key=k:=fun e=>by rw[e,qEq] at hb;cases hb
   rw[if_neg hne,if_neg (by rw[less_asymm hb];simp),if_pos hb,with_there h]
   rfl
  ·rw[if_neg hb] at h
   have he:r.key=k:=by simpa using h
   rw[if_pos he,if_neg hb]
   rfl
theorem with_new {k:List UInt8} {n:Int}:∀ {l:List RowD},hasK k l=false→withL l ⟨k,n,true⟩=l.take (posK k l)++⟨k,n⟩::l.drop (posK k l)
 | [],h=>rfl
 | r::l,h=>by
  rw[has_cons] at h
  unfold withL
  simp only[posK]
  by_cases hb:bytesLess r.key k=true
  ·rw[if_pos hb] at h
   have hne:¬r.key=k:=fun e=>by rw[e,qEq] at hb;cases hb
   rw[if_neg hne,if_neg (by rw[less_asymm hb];simp),if_pos hb,with_new h]
   rfl
  ·rw[if_neg hb] at h
   have hne:¬r.key=k:=by simpa using h
   rw[if_neg hne,if_neg hb,if_pos (less_total hne (by simpa using hb))]
   rfl
theorem with_drop {k:List UInt8} {n:Int}:∀ {l:List RowD},hasK k l=true→withL l ⟨k,n,false⟩=l.take (posK k l)++l.drop (posK k l+1)
 | [],h=>by simp[hasK,posK] at h
 | r::l,h=>by
  rw[has_cons] at h
  unfold withL
  simp only[posK]
  by_cases hb:bytesLess r.key k=true
  ·rw[if_pos hb] at h
   have hne:¬r.key=k:=fun e=>by rw[e,qEq] at hb;cases hb
   rw[if_neg hne,if_neg (by rw[less_asymm hb];simp),if_pos hb,with_drop h]
   rfl
  ·rw[if_neg hb] at h
   have he:r.key=k:=by simpa using h
   rw[if_pos he,if_neg hb]
   rfl
theorem with_not {k:List UInt8} {n:Int}:∀ {l:List RowD},hasK k l=false→withL l ⟨k,n,false⟩=l
 | [],h=>rfl
 | r::l,h=>by
  rw[has_cons] at h
  unfold withL
  by_cases hb:bytesLess r.key k=true
  ·rw[if_pos hb] at h
   have hne:¬r.key=k:=fun e=>by rw[e,qEq] at hb;cases hb
   rw[if_neg hne,if_neg (by rw[less_asymm hb];simp),with_not h]
  ·rw[if_neg hb] at h
   have hne:¬r.key=k:=by simpa using h
   rw[if_neg hne,if_pos (less_total hne (by simpa using hb))]
   rfl
theorem has_lt {k:List UInt8} {l:List RowD} (h:hasK k l=true):posK k l<l.length:=by
 obtain⟨r,hr,_⟩:=has_at h
 exact (List.getElem?_eq_some_iff.1 hr).1
theorem with_len_there {k:List UInt8} {n:Int} {l:List RowD} (h:hasK k l=true):(withL l ⟨k,n,true⟩).length=l.length:=by rw[with_there h,List.length_set]
theorem with_len_new {k:List UInt8} {n:Int} {l:List RowD} (h:hasK k l=false):(withL l ⟨k,n,true⟩).length=l.length+1:=by
 rw[with_new h]
 have:=posK_le k l
 simp
 omega
theorem with_len_drop (k:List UInt8) (n:Int) (l:List RowD):(withL l ⟨k,n,false⟩).length≤l.length:=by
 cases h:hasK k l with
 | true=>rw[with_drop h];have:=has_lt h;simp;omega
 | false=>rw[with_not h];exact Nat.le_refl _
structure CelC (lo:Nat) (A:St) (p:Nat) (l:List RowD):Prop where
 low:lo≤p
 ex:∃ s,Cl A p [s]∧AM.Own lo A 2 s (RowR.all l)∧s.into p=false
 up:Up l
 few:l.length≤256
theorem CelC.ext {lo:Nat} {A B:St} {p:Nat} {l:List RowD} (h:CelC lo A p l) (x:A.Ext B):CelC lo B p l:=by
 obtain⟨s,h1,h2,h3⟩:=h.ex
 exact⟨h.low,⟨s,h1.ext x,h2.ext x,h3⟩,h.up,h.few⟩
def RowsI (X:Calls'):Prop:=∀ {lo lo':Nat} {A:St} {s:AV} {l:List RowD} {i g:Nat} {r:RowD},AM.Own lo A 2 s (RowR.all l)→AM.Own lo' A 2 (.slice (some (g,0,0)) 0 1 1 0) (RowR.cells r)→(∀ f,s.into f=true→f≠g)→lo≤A.next→i≤l.length→l.length≤1000 →
 ∃ s' B,X 298 [s,.int .i64 i,.slice (some (g,0,0)) 0 1 1 0] A=some (s',B)∧AM.Own lo B 2 s' (RowR.all (l.take i++r::l.drop i))∧But A B s∧∀ f,s'.into f=true→s.into f=true∨A.next≤f
section
variable {D:Disp} {G0:Env} {X:Calls'} {A0:St}
theorem cat_spec (HC:RowsC X) {lo:Nat} {A:St} {p:Nat} {l:List RowD} {k:List UInt8} (h:CelC lo A p l) :
  Ev D G0 fnsL X 297 [.ptr (some (p,0,0)),.str k] A fun r B=>A.Ext B∧r=.tuple [.int .i64 (posK k l:Nat),.bool (hasK k l)]:=by
 refine Ev.fnK (fn:=a297) rfl ⟨by simp[a297],by decide⟩ ?_
 unfold a297
 obtain⟨s,hc,hs,hp⟩:=h.ex
 have l0:=hc.ld 0 (v:=s) rfl
 have hfew:=h.few
 simp[AV.addr,l0,qaq,allKnown,hs.sl.allKnown]
 refine (search_spec HC hs.sl h.up (by omega)).mono fun r B ⟨x,hr⟩=>?_
 subst hr
 simp
 exact x
theorem set_spec (HC:RowsC X) (HI:RowsI X) {lo:Nat} {A:St} {p:Nat} {l:List RowD} {k:List UInt8} {n:Int} (h:CelC lo A p l) :
  Ev D G0 fnsL X 198 [.ptr (some (p,0,0)),.str k,.int .i64 n] A fun r B=>Mod (fun f=>lo≤f) A B∧((256<(withL l ⟨k,n,true⟩).length∧EV B r 5∧CelC lo B p l)∨((withL l ⟨k,n,true⟩).length≤256∧r=.nilIface∧CelC lo B p (withL l ⟨k,n,true⟩))):=by
 refine Ev.fnK (fn:=a198) rfl ⟨by simp[a198],by decide⟩ ?_
 unfold a198
 simp[qaq,allKnown]
 refine (cat_spec HC h).mono fun r B ⟨x,hr⟩=>?_
 subst hr
 have hB:=h.ext x
 obtain⟨s,hc,hs,hp⟩:=hB.ex
 have l0:=hc.ld 0 (v:=s) rfl
 have hfew:=h.few
 have hlen:=hs.sl.rec_lenV
 have m0:Mod (fun f=>lo≤f) A B:=Mod.of_ext x
 simp
 cases hk:hasK k l with
 | true=>
  have hlt:=has_lt hk
  obtain⟨r,hr,hrk⟩:=has_at hk
  obtain⟨f,v,y,g1,g2⟩:=own_putE hs (j:=posK k l) (o:=1) (by rw[hs.sl.rec_len];exact hlt) (by decide) .i64
  obtain⟨C,g3,g4,g5⟩:=g2 (.int .i64 n) rfl rfl rfl
  simp[AV.addr,l0,g1,g3]
  have hpC:C.get p=B.get p:=g5.get p hc.lt hp
  have hcC:Cl C p [s]:=⟨Nat.lt_of_lt_of_le hc.lt g5.next,by rw[hpC];exact hc.get⟩
  rw[rows_set n hr,hrk,←with_there hk] at g4
  refine⟨m0.trans (hs.but g5),?_⟩
  rw[with_len_there hk]
  exact .inr ⟨hfew,h.low,⟨s,hcC,g4,hp⟩,with_up h.up,by rw[with_len_there hk];exact hfew⟩
 | false=>
  have hge:binOf .geq (.int .i64 (l.length:Int)) (.int .i64 256)=some (.bool (decide (256≤l.length))):=by
   rw[bin_geq]
   congr 2
   rw[decide_eq_decide]
   omega
  simp[AV.addr,l0,hlen,hge,-bin_geq]
  refine qeq (fun hcd=>?_) (fun hcd=>?_)
  ·simp at hcd
   have hlen1:=with_len_new (n:=n) hk
   simp
   refine Wp.draws ?_
   have ea:binOf .add (.int .i64 (l.length:Int)) (.int .i64 1)=some (.int .i64 ((l.length+1:Nat):Int)):=add_one (i:=l.length) (by omega)
   simp[AV.addr,l0,hlen,ea,InAll,AV.beq,hs.sl.beq,qiq,allKnown,-qbq]
   refine (new_spec (e:=5) (by decide)).mono fun r C ⟨x1,h1⟩=>?_
   obtain⟨t,u,rfl⟩:=h1.isIface
   have l0':=(hc.ext x1).ld 0 (v:=s) rfl
   simp[AV.addr,l0,l0',hlen,ea,InAll,AV.beq,hs.sl.beq,qiq,allKnown,-qbq]
   refine (bound_spec h1).mono fun r C2 ⟨x2,h2⟩=>?_
   obtain⟨t,u,rfl⟩:=h2.isIface
   simp[AV.addr,l0,l0',hlen,ea,InAll,AV.beq,hs.sl.beq,qiq,allKnown,-qbq]
   exact⟨m0.trans (Mod.of_ext (x1.trans x2)),by omega,h2.ev (by decide),(hB.ext x1).ext x2⟩
  ·simp at hcd
   have hlen1:=with_len_new (n:=n) hk
   have x1:=qdq B [.str k,.int .i64 n] 2
   have hv:=own_rec RowR B ⟨k,n⟩
   have hs1:=hs.ext x1
   have hc1:=hc.ext x1
   have hnx:(B.make [.str k,.int .i64 n] 2).2.next=B.next+1:=rfl
   simp[AV.addr,l0,fillA,AV.isBot,AV.cells,splice,Made.value,qaq,allKnown,hs.sl.allKnown]
   have hv':AM.Own B.next (B.make [.str k,.int .i64 n] 2).2 2 (.slice (some (B.next,0,0)) 0 1 1 0) (RowR.cells ⟨k,n⟩):=by rw[show [AV.str k,AV.int .i64 n]=RowR.cells ⟨k,n⟩ from rfl];simpa[Rec.all] using hv
   generalize (B.make [.str k,.int .i64 n] 2).2=B1 at *
   obtain⟨s',C,g1,g2,g3,g4⟩:=HI (i:=posK k l) hs1 hv' (fun f hf=>by have:=(own_into hs hf).2;omega) (by have:=(hc.lt);have:=h.low;omega) (posK_le k l) (by omega)
   refine Ev.ext rfl g1 ?_
   have hp1:C.get p=B1.get p:=g3.get p hc1.lt hp
   have hc2:Cl C p [s]:=⟨Nat.lt_of_lt_of_le hc1.lt g3.next,by rw[hp1];exact hc1.get⟩
   obtain⟨C2,s1,s2,s3⟩:=hc2.stM 0 (by simp) (v:=s') g2.sl.cells1.2.2 g2.sl.cells1.1 g2.sl.cells1.2.1
   have hsp:s'.into p=false:=by
    cases hi:s'.into p with
    | false=>rfl
    | true=>
     rcases g4 p hi with h1|h1
     ·rw[hp] at h1;cases h1
     ·have:=hc1.lt;omega
   simp[AV.addr,s1]
   rw[←with_new hk] at g2
   exact⟨((m0.trans (Mod.of_ext x1)).trans (hs1.but g3)).trans (s2.mono fun f _ hf=>by rw[hf];exact h.low),.inr ⟨by omega,h.low,⟨s',s3,Own_mod g2 s2 (fun f hf hfp=>by rw[hfp,hsp] at hf;cases hf),hsp⟩,with_up h.up,by omega⟩⟩
end
end Go.Proofs.YtlaoookdegmnnaaGreatDoor
namespace Go.AM
theorem own_fit {A:St} {sz bytes f v o po len cap q:Nat} {all:List AV} {vers:List Ver} {nv:Nat} {y:Ver} (hf:f<A.next) (hg:A.get f=some (.cells all vers nv false)) (hv:findVer v vers=some y)
  (h1:y.lo≤o) (h2:o+len*sz≤y.hi) (h3:y.hi≤all.length) {x:AV} {ds:List AV} {n:Nat} (hx:Sl A sz x ds) (hn:x.slen=n) (hz:sz≠0) (hfl:ds.all AV.flat=true) (hfit:o+(len+n)*sz≤y.hi) (hq:q=0∧len+n≤cap∨q=sz∧q≠0)
  (hb:(len+n)*bytes≤70368744177664) (hb':len+n≤70368744177664) :
  ∃ B all1 vers1,appendOf A sz bytes (.slice (some (f,v,o)) po len cap q) x=some (.slice (some (f,v,o)) po (len+n) cap q,B)∧B.get f=some (.cells all1 vers1 nv false)∧findVer v vers1=some y∧all1.length=all.length∧(all1.drop o).take ((len+n)*sz)=(all.drop o).take (len*sz)++ds∧B.next=A.next∧∀ g,g≠f→B.get g=A.get g:=by
 obtain⟨hl,hfa⟩:=hx.first
 have hlen:=hx.length
 rw[hn] at hl hfa hlen
 unfold appendOf
 rw[hl]
 dsimp only
 rw[hfa]
 dsimp only
 rw[if_pos ⟨hfl,hlen,hz⟩]
 by_cases hn0:n=0
 ·subst hn0
  have hds:ds=[]:=by simpa using hlen
  subst hds
  refine⟨A,all,vers,?_,hg,hv,rfl,by simp,rfl,fun _ _=>rfl⟩
  cases q with
  | zero=>
   have:len≤cap:=by rcases hq with h|h;omega;exact absurd rfl h.2
   simp[this]
  | succ q=>simp
 ·have hlook:A.look (f,v,o+len*sz)=some (all,y,nv,false):=by
   unfold St.look;dsimp only;rw[hg];dsimp only;rw[hv];rfl
  have hy:=(qwq hv).2
  rw[Nat.add_mul] at hfit
  have hw:A.write (f,v,o+len*sz) ds=some (A.put f (.cells (splice all (o+len*sz) ds) [y] nv false)):=by
   unfold St.write
   rw[hlook]
   dsimp only
   rw[if_pos ⟨by omega,by omega,h3,hfl⟩]
  refine⟨A.put f (.cells (splice all (o+len*sz) ds) [y] nv false),splice all (o+len*sz) ds,[y],?_,by rw[St.get_put,if_pos rfl],by simp[findVer,hy],splice_length all ds _ (by omega),?_,rfl,fun g hg=>by rw[St.get_put,if_neg hg]⟩
  ·cases q with
   | zero=>
    have:len+n≤cap:=by rcases hq with h|h;exact h.2;exact absurd rfl h.2
    dsimp only
    rw[if_pos this,if_neg hn0,hw]
   | succ q=>
    have hq':q+1=sz:=by rcases hq with h|h;exact absurd h.1 (by omega);exact h.1
    dsimp only
    rw[if_neg hn0,if_pos ⟨hb,hb',hq'⟩,hg]
    dsimp only
    rw[hv]
    dsimp only
    rw[if_pos ⟨h1,h2,h3⟩,if_pos (by rw[Nat.add_mul];exact hfit),hw]
  ·have e:=grown_cells (all:=all) (ds:=ds) (rest:=all.drop (o+len*sz+ds.length)) (o:=o) (a:=len*sz) (b:=n*sz) (by omega) hlen
   rw[Nat.add_mul]
   exact e
theorem take_splice {X l:List AV} {o k:Nat} (ho:o≤k) (hk:k+l.length≤X.length):((splice X k l).drop o).take (k - o)=(X.drop o).take (k - o):=by
 unfold splice
 have h1:(X.take k).length=k:=by simp;omega
 rw[List.drop_append_of_le_length (by omega),List.take_append_of_le_length (by simp;omega),List.drop_take,List.take_take,Nat.min_self]
def CutL (sz:Nat) (A:St) (x:AV) (lo hi:Option AV) (r:AV):Prop:=cutSliceOf sz x lo hi none=some r∨(cutSliceOf sz x lo hi none=none∧lateCut sz A x lo hi none=some r)
theorem own_del {lo:Nat} {A:St} {sz bytes:Nat} {s:AV} {cs:List AV} (h:Own lo A sz s cs) (hz:sz≠0) {i n:Nat} (hn:s.slen=n) (hi:i<n) {zero:List AV} (hzl:zero.length=sz) (hzf:zero.all AV.flat=true) (hfl:cs.all AV.flat=true) (hb:n*bytes≤70368744177664) (hb':n≤70368744177664) :
  ∃ s0 s1 s2 s' s3 B1 p B2,cutSliceOf sz s (some (.int .i64 i)) (some (.int .i64 ((i+1:Nat):Int))) (some (.int .i64 n))=some s0∧cutSliceOf sz s none (some (.int .i64 i)) none=some s1∧cutSliceOf sz s (some (.int .i64 ((i+1:Nat):Int))) none none=some s2 ∧
   appendOf A sz bytes s1 s2=some (s',B1)∧s'.slen=n - 1∧lenV s'=some (.int .i64 ((n - 1:Nat):Int))∧CutL sz B1 s' (some (.int .i64 ((n - 1:Nat):Int))) (some (.int .i64 n)) s3∧(∃ po cap q,s3=.slice (some p) po 1 cap q)∧B1.write p zero=some B2 ∧
   Own lo B2 sz s' (cs.take (i*sz)++cs.drop ((i+1)*sz))∧But A B2 s∧∀ g,s'.into g=s.into g:=by
 obtain⟨s1,q1,q2,q3⟩:=h.sl.cutTo (hi:=i) (by omega) (j:=.i64)
 obtain⟨s2,w1,w2,w3⟩:=h.sl.cutFrom (lo:=i+1) (by omega) (k:=.i64)
 cases h with
 | nil po cap q=>simp[AV.slen] at hn;omega
 | @mem f v o po len cap q all vers nv y hlo hf hg hv h1 h2 h3 hq=>
  simp only[AV.slen] at hn
  subst hn
  have hi1:i*sz≤len*sz:=Nat.mul_le_mul_right _ (by omega)
  have hi2:(len - 1)*sz+sz=len*sz:=by
   conv=>rhs;rw[show len=(len - 1)+1 by omega]
   rw[Nat.add_mul];omega
  have hle:i+(len - (i+1))=len - 1:=by omega
  have hw2:s2.slen=len - (i+1):=by simpa[AV.slen] using w2
  have hds:(((all.drop o).take (len*sz)).drop ((i+1)*sz)).all AV.flat=true:=by
   rw[List.all_eq_true] at hfl ⊢
   exact fun a ha=>hfl a (List.mem_of_mem_drop ha)
  have hq':q=0∧i+(len - (i+1))≤cap∨q=sz∧q≠0:=hq.imp (fun h=>⟨h.1,by omega⟩) id
  have hbb:(i+(len - (i+1)))*bytes≤70368744177664:=Nat.le_trans (Nat.mul_le_mul_right _ (by omega)) hb
  have hs1:s1=.slice (some (f,v,o)) (if q=0 then 0 else po) i cap q:=by
   cases q with
   | zero=>
    have hc:len≤cap:=by rcases hq with h|h;exact h.2.1;exact absurd rfl h.2
    simp[cutSliceOf,boundHi,boundLo,boundMx,bound?] at q1
    rw[if_pos (by omega)] at q1
    simp at q1
    exact q1.2.symm
   | succ q=>
    simp[cutSliceOf,boundHi,boundLo,boundMx,bound?] at q1
    rw[if_pos (by omega)] at q1
    simp at q1
    obtain⟨hqs,rfl⟩:=q1
    simp
  obtain⟨B1,all1,vers1,g1,g2,g3,g4,g5,g6,g7⟩:=own_fit (bytes:=bytes) (po:=if q=0 then 0 else po) (cap:=cap) (q:=q) hf hg hv h1 (len:=i) (by omega) h3 w3 hw2 hz hds (by rw[hle];omega) hq' hbb (by omega)
  rw[←hs1] at g1
  rw[hle] at g1 g5
  have hy:=(qwq g3).2
  have hlk:B1.look (f,v,o+(len - 1)*sz)=some (all1,y,nv,false):=by
   unfold St.look;dsimp only;rw[g2];dsimp only;rw[g3];rfl
  have hs0:∃ s0,cutSliceOf sz (.slice (some (f,v,o)) po len cap q) (some (.int .i64 i)) (some (.int .i64 ((i+1:Nat):Int))) (some (.int .i64 len))=some s0:=by
   cases q with
   | zero=>
    have hc:len≤cap:=by rcases hq with h|h;exact h.2.1;exact absurd rfl h.2
    refine⟨.slice (some (f,v,if len=i then o else o+i*sz)) 0 (i+1 - i) (len - i) 0,?_⟩
    simp only[cutSliceOf,boundMx,boundHi,boundLo,bound?]
    rw[if_pos (by omega)]
    simp only[Int.toNat_natCast]
    rw[if_pos (by omega)]
    simp only[Int.toNat_natCast]
    rw[if_pos (by omega)]
    simp only[Int.toNat_natCast]
    rw[if_neg (by simp;omega)]
   | succ q=>
    refine⟨.slice (some (f,v,if len=i then o else o+i*sz)) 0 (i+1 - i) (len - i) 0,?_⟩
    simp only[cutSliceOf,boundMx,boundHi,boundLo,bound?]
    rw[if_pos (by omega)]
    simp only[Int.toNat_natCast]
    rw[if_pos (by omega)]
    simp only[Int.toNat_natCast]
    rw[if_pos (by omega)]
    simp only[Int.toNat_natCast]
    rw[if_neg (by simp;omega)]
  obtain⟨s0,hs0⟩:=hs0
  have hs3:∃ po' cap' q',CutL sz B1 (.slice (some (f,v,o)) (if q=0 then 0 else po) (len - 1) cap q) (some (.int .i64 ((len - 1:Nat):Int))) (some (.int .i64 len)) (.slice (some (f,v,o+(len - 1)*sz)) po' 1 cap' q'):=by
   cases q with
   | zero=>
    have hc:len≤cap:=by rcases hq with h|h;exact h.2.1;exact absurd rfl h.2
    refine⟨0,cap - (len - 1),0,.inl ?_⟩
    simp only[cutSliceOf,boundMx,boundHi,boundLo,bound?]
    rw[if_pos (by omega)]
    simp only[Int.toNat_natCast]
    rw[if_pos (by omega)]
    simp only[Int.toNat_natCast]
    rw[if_neg (by simp;omega),if_neg (by omega)]
    rw[show len - (len - 1)=1 by omega]
   | succ q=>
    have hqs:q+1=sz:=by rcases hq with h|h;exact absurd h.1 (by omega);exact h.1
    refine⟨if len - 1=0 then (if q+1=0 then 0 else po) else o,cap+(len - 1),q+1,.inr ⟨?_,?_⟩⟩
    rotate_left
    ·unfold lateCut
     simp only[]
     rw[g2]
     simp only[]
     rw[g3]
     simp only[bound?]
     have hdiv:len≤(y.hi - o) / sz:=(Nat.le_div_iff_mul_le (Nat.pos_of_ne_zero hz)).2 (by omega)
     rw[if_pos (by omega)]
     simp only[boundLo,bound?,Int.toNat_natCast]
     rw[if_pos (by omega)]
     simp only[Int.toNat_natCast]
     rw[if_pos ⟨hqs.symm,h1,by omega⟩,show len - (len - 1)=1 by omega]
    ·simp only[cutSliceOf,boundHi,bound?]
     rw[if_neg (by omega)]
  obtain⟨po',cap',q',hs3⟩:=hs3
  have hcut:(((all.drop o).take (len*sz)).take (i*sz))=(all.drop o).take (i*sz):=by rw[List.take_take,Nat.min_eq_left hi1]
  refine⟨s0,s1,s2,_,_,B1,(f,v,o+(len - 1)*sz),B1.put f (.cells (splice all1 (o+(len - 1)*sz) zero) [y] nv false),hs0,q1,w1,g1,rfl,rfl,hs3,⟨_,_,_,rfl⟩,?_,?_,?_,?_⟩
  ·unfold St.write
   rw[hlk]
   dsimp only
   rw[if_pos ⟨by omega,by omega,by omega,hzf⟩]
  ·have e1:=take_splice (X:=all1) (l:=zero) (o:=o) (k:=o+(len - 1)*sz) (by omega) (by omega)
   rw[show o+(len - 1)*sz - o=(len - 1)*sz by omega,g5] at e1
   rw[hcut,←e1]
   refine .mem hlo (by rw[St.next_put,g6];exact hf) (by rw[St.get_put,if_pos rfl]) (by simp[findVer,hy]) h1 (by omega) (by rw[splice_length _ _ _ (by omega)];omega) (hq.imp (fun h=>⟨h.1,by omega,h.2.2⟩) id)
  ·exact⟨by rw[St.next_put,g6];exact Nat.le_refl _,fun g hgn hgi=>by
    have hne:g≠f:=by rintro rfl;simp[AV.into] at hgi
    rw[St.get_put,if_neg hne,g7 g hne]⟩
  ·intro g
   rfl
section
variable {D:Disp} {G0:Env} {fns:Nat→Option AFn} {X:Calls'}
@[simp] theorem ops_clearS (zero:List AV) (x:Operand) (d:Option Nat) (l:List AOper) (E:Env) (A:St) (Q:Ex→Env→St→Prop):Ops D G0 fns X (⟨d,.clearS zero x,none⟩::l) E A Q=contP D G0 fns X (effOf E A (.clearS zero x)) d l E Q:=ops_eff rfl d l E A Q
end
theorem eff_clear1 {E:Env} {A B:St} {zero:List AV} {x:Operand} {p:Pl} {po cap q:Nat} (h:ev E x=.slice (some p) po 1 cap q) (hw:A.write p zero=some B):effOf E A (.clearS zero x)=some (.tuple [],B):=by
 simp only[effOf,h]
 simp[hw]
end Go.AM
namespace Go.Proofs.YtlaoookdegmnnaaGreatDoor
open Go.AM
section
variable {D:Disp} {G0:Env} {X:Calls'} {A0:St}
theorem rows_drop {l:List RowD} {i:Nat}:(RowR.all l).take (i*2)++(RowR.all l).drop ((i+1)*2)=RowR.all (l.take i++l.drop (i+1)):=by
 rw[RowR.append,RowR.take]
 congr 1
 induction l generalizing i with
 | nil=>simp[Rec.all]
 | cons r l ih=>
  cases i with
  | zero=>rfl
  | succ i=>
   rw[show (i+1+1)*2=(i+1)*2+2 by omega]
   show (RowR.all l).drop ((i+1)*2)=_
   rw[ih]
   rfl
theorem delete_spec {lo:Nat} {A:St} {s:AV} {l:List RowD} (hs:AM.Own lo A 2 s (RowR.all l)) {i:Nat} (hi:i<l.length) (hl:l.length≤1000) :
  Ev D G0 fnsL X 343 [s,.int .i64 i,.int .i64 ((i+1:Nat):Int)] A fun r B=>AM.Own lo B 2 r (RowR.all (l.take i++l.drop (i+1)))∧But A B s∧∀ g,r.into g=s.into g:=by
 refine Ev.fnK (fn:=a343) rfl ⟨by simp[a343],by decide⟩ ?_
 unfold a343
 have hlen:=hs.sl.rec_lenV
 obtain⟨s0,s1,s2,s',s3,B1,p,B2,h0,h1,h2,h3,h4,hl',h5,⟨po,cap,q,h6⟩,h7,h8,h9,h10⟩:=own_del (bytes:=24) hs (by decide) hs.sl.rec_len hi (zero:=[.str [],.int .i64 0]) rfl rfl (RowR.allFlat l) (by omega) (by omega)
 have e:binOf .eql (.int .i64 (i:Int)) (.int .i64 ((i+1:Nat):Int))=some (.bool false):=by
  rw[qqq]
  congr 2
  rw[decide_eq_false_iff_not]
  omega
 rw[rows_drop] at h8
 have ha:appendV A false 2 24 s1 s2=some (s',B1):=by
  unfold appendV
  have hok:okSrc false s2=true:=by
   obtain⟨s2',w1,w2,w3⟩:=hs.sl.cutFrom (lo:=i+1) (by rw[hs.sl.rec_len];omega) (k:=.i64)
   rw[h2] at w1
   cases w1
   have hk:∀ cs,Sl A 2 s2 cs→okSrc false s2=true:=fun cs h=>by cases h<;>rfl
   exact hk _ w3
  rw[hok]
  exact h3
 simp[hlen,h0,e,-qqq,-Int.natCast_add]
 refine Wp.draws ?_
 simp[h1,h2,ha,InAll,-Int.natCast_add]
 subst h6
 have hcl:∀ E:Env,ev E (.tmp 31)=.slice (some p) po 1 cap q→effOf E B1 (.clearS [.str [],.int .i64 0] (.tmp 31))=some (.tuple [],B2):=fun E he=>eff_clear1 he h7
 rcases h5 with h5|⟨h5,h5'⟩
 ·simp[hl',h5]
  rw[hcl _ (by simp)]
  simp[h8.sl.known]
  exact⟨h8,h9,h10⟩
 ·simp[hl',h5,h5']
  rw[hcl _ (by simp)]
  simp[h8.sl.known]
  exact⟨h8,h9,h10⟩
end
section
variable {D:Disp} {G0:Env} {X:Calls'} {A0:St}
theorem drop_spec' (HC:RowsC X) {lo:Nat} {A:St} {p:Nat} {l:List RowD} {k:List UInt8} (n:Int) (h:CelC lo A p l) :
  Ev D G0 fnsL X 253 [.ptr (some (p,0,0)),.str k] A fun r B=>Mod (fun f=>lo≤f) A B∧CelC lo B p (withL l ⟨k,n,false⟩)∧r=.tuple []:=by
 refine Ev.fnK (fn:=a253) rfl ⟨by simp[a253],by decide⟩ ?_
 unfold a253
 simp[qaq,allKnown]
 refine (cat_spec HC h).mono fun r B ⟨x,hr⟩=>?_
 subst hr
 have hB:=h.ext x
 obtain⟨s,hc,hs,hp⟩:=hB.ex
 have l0:=hc.ld 0 (v:=s) rfl
 have hfew:=h.few
 have m0:Mod (fun f=>lo≤f) A B:=Mod.of_ext x
 simp
 cases hk:hasK k l with
 | true=>
  have hlt:=has_lt hk
  have ea:binOf .add (.int .i64 (posK k l:Int)) (.int .i64 1)=some (.int .i64 ((posK k l+1:Nat):Int)):=add_one (i:=posK k l) (by omega)
  simp[AV.addr,l0,ea,qaq,allKnown,hs.sl.allKnown,-qbq,-Int.natCast_add]
  refine (delete_spec hs hlt (by omega)).mono fun r C ⟨g1,g2,g3⟩=>?_
  have hcC:Cl C p [s]:=⟨Nat.lt_of_lt_of_le hc.lt g2.next,by rw[g2.get p hc.lt hp];exact hc.get⟩
  obtain⟨C2,s1,s2,s3⟩:=hcC.stM 0 (by simp) (v:=r) g1.sl.cells1.2.2 g1.sl.cells1.1 g1.sl.cells1.2.1
  simp[AV.addr,s1]
  rw[←with_drop (n:=n) hk] at g1
  exact⟨(m0.trans (hs.but g2)).trans (s2.mono fun f _ hf=>by rw[hf];exact h.low),h.low,⟨r,s3,Own_mod g1 s2 (fun f hf hfp=>by rw[hfp,g3,hp] at hf;cases hf),by rw[g3];exact hp⟩,with_up h.up,Nat.le_trans (with_len_drop k n l) hfew⟩
 | false=>
  simp
  rw[with_not hk]
  exact⟨m0,hB⟩
theorem cloneR_spec {A:St} {s:AV} {l:List RowD} (hs:Sl A 2 s (RowR.all l)) (hl:l.length≤1000) :
  Ev D G0 fnsL X 202 [s] A fun r B=>A.Ext B∧AM.Own A.next B 2 r (RowR.all l):=by
 refine Ev.fnK (fn:=a202) rfl ⟨by simp[a202],by decide⟩ ?_
 unfold a202
 obtain⟨b,hb,hb'⟩:=nil_test hs
 simp[hb]
 refine qeq (fun hc=>?_) (fun hc=>?_)
 ·have h0:=hb' hc
  rw[h0]
  simp
  exact⟨St.Ext.refl A,.nil _ _ _⟩
 ·have ho:AM.Own A.next (A.make [] 2).2 2 (.slice (some (A.next,0,0)) 0 0 0 0) []:=by simpa using qtq A (cs:=[]) (sz:=2) (n:=0) (by simp) (Nat.le_refl _) (len:=0) (Nat.le_refl _)
  have hx:=Sl.ext (qdq A [] 2) hs
  have hln:=hx.rec_len
  obtain⟨s',B,h1,h2,h3,h4,h5⟩:=qpq (bytes:=24) ho hx (Nat.le_succ _) (by decide) (RowR.allFlat l) (by rw[hln];simp[AV.slen];omega) (by rw[hln];simp[AV.slen];omega)
  simp[fillA,Made.value,h1,h3.sl.known]
  refine⟨⟨Nat.le_trans (Nat.le_succ _) h4.next,fun f hf=>?_⟩,by simpa using h3⟩
  rw[h4.get f (Nat.lt_succ_of_lt hf) (by simp[AV.into];omega)]
  exact (qdq A [] 2).get f hf
theorem copy_spec {lo:Nat} {A:St} {p:Nat} {l:List RowD} (h:CelC lo A p l):Ev D G0 fnsL X 199 [.ptr (some (p,0,0))] A fun r B=>A.Ext B∧∃ q,r=.ptr (some (q,0,0))∧CelC A.next B q l:=by
 refine Ev.fnK (fn:=a199) rfl ⟨by simp[a199],by decide⟩ ?_
 unfold a199
 obtain⟨s,hc,hs,hp⟩:=h.ex
 have l0:=hc.ld 0 (v:=s) rfl
 have hfew:=h.few
 simp[eqV,eqOf,AV.addr,l0,qaq,allKnown,hs.sl.allKnown]
 refine (cloneR_spec hs.sl (by omega)).mono fun r B ⟨x,ho⟩=>?_
 have hx:=qdq B [r] 1
 have hcl:=Cl.make B [r]
 have hr:=ho.sl.cells1
 simp[fillA,splice,hr.1,hr.2.1,boxV,Made.value,cells_agg]
 exact⟨x.trans hx,x.next,⟨r,hcl,ho.ext hx,by
  cases hi:r.into B.next with
  | false=>rfl
  | true=>have:=(own_into ho hi).2;omega⟩,h.up,h.few⟩
end
def newOne (acc:List RowD) (r:RowD):List RowD:=if r.key.length≤16 then (if 256<(withL acc (chOf r)).length then acc else withL acc (chOf r)) else acc
def newL (l:List RowD):List RowD:=l.foldl newOne []
theorem new_take {l:List RowD} {i:Nat} {r:RowD} (h:l[i]?=some r):newL (l.take (i+1))=newOne (newL (l.take i)) r:=by
 unfold newL
 have:l.take (i+1)=l.take i++[r]:=by rw[List.take_add_one,h];rfl
 rw[this,List.foldl_append]
 rfl
theorem new_self {l:List RowD} (hu:Up l) (hl:l.length≤256) (hk:∀ r∈l,r.key.length≤16):newL l=l:=by
 have key:∀ n,n≤l.length→newL (l.take n)=l.take n:=by
  intro n
  induction n with
  | zero=>intro _;rfl
  | succ n ih=>
   intro hn
   have hg:l[n]?=some l[n]:=List.getElem?_eq_getElem (by omega)
   have ht:l.take (n+1)=l.take n++[l[n]]:=by rw[List.take_add_one,hg];rfl
   rw[new_take hg,ih (by omega)]
   unfold newOne
   rw[if_pos (hk _ (List.getElem_mem _))]
   have hu':Up (l.take n++[l[n]]):=by rw[←ht];exact List.Pairwise.sublist (List.take_sublist _ _) hu
   rw[show withL (l.take n) (chOf l[n])=l.take n++[l[n]] from with_snoc hu',←ht,if_neg (by simp;omega)]
 have:=key l.length (Nat.le_refl _)
 rwa [List.take_length] at this
section
variable {D:Disp} {G0:Env} {X:Calls'} {A0:St}
theorem newC_spec (HC:RowsC X) (HI:RowsI X) {A:St} {s:AV} {l:List RowD} (hs:Sl A 2 s (RowR.all l)) (hl:l.length<2^40) :
  Ev D G0 fnsL X 108 [s] A fun r B=>A.Ext B∧∃ q,r=.ptr (some (q,0,0))∧CelC A.next B q (newL l):=by
 refine Ev.fnK (fn:=a108) rfl ⟨by simp[a108],by decide⟩ ?_
 unfold a108
 have hlen:=hs.rec_lenV
 have x0:=qdq A [.slice none 0 0 0 0] 1
 have c0:=Cl.make A [.slice none 0 0 0 0]
 simp[fillA,splice,boxV,Made.value,cells_agg,AV.isBot,hlen]
 generalize (A.make [.slice none 0 0 0 0] 1).2=A1 at *
 refine Wp.loopK (fun d E A'=>A.Ext A'∧Env.at E 3=.ptr (some (A.next,0,0))∧Env.at E 8=s∧Env.at E 9=.int .i64 l.length∧∃ i:Nat,Env.at E 10=.int .i64 i∧i≤l.length∧i+d=l.length∧CelC A.next A' A.next (newL (l.take i))) l.length ?_ ?_
 ·exact⟨x0,by simp,by simp,by simp,0,by simp,Nat.zero_le _,by simp,Nat.le_refl _,⟨_,c0,.nil _ _ _,rfl⟩,List.Pairwise.nil,Nat.zero_le _⟩
 rintro d E A' ⟨x,e3,e8,e9,i,e10,h1,h2,hC⟩
 simp[e9,e10,qoq,-qjq]
 refine qeq (fun hc=>?_) (fun hc=>?_)
 ·simp at hc
  have hg:l[i]?=some l[i]:=List.getElem?_eq_getElem hc
  obtain⟨p,g1,g2⟩:=(Sl.ext x hs).rec_at hg .i64
  obtain⟨B,w1,w2,w3⟩:=local_put A' (cs:=[.str [],.int .i64 0]) (n:=2) rfl (l:=RowR.cells l[i]) rfl rfl
  have l0:=w3.ld 0 (v:=.str l[i].key) rfl
  have l1:=w3.ld 1 (v:=.int .i64 l[i].n) rfl
  have ea:=add_one (i:=i) (by omega)
  have hle:binOf .leq (.int .i64 (l[i].key.length:Int)) (.int .i64 16)=some (.bool (decide (l[i].key.length≤16))):=by
   rw[bin_leq]
   congr 2
   rw[decide_eq_decide]
   omega
  simp[-qbq] at ea
  have nt:=new_take hg
  simp[e3,e8,e9,e10,g1,g2,Made.value,w1,AV.addr,l0,l1,lenStrV,hle,-bin_leq,-qbq]
  refine qeq (fun hk=>?_) (fun hk=>?_)
  ·simp at hk
   simp[e3,AV.addr,l0,l1,qaq,allKnown,-qbq]
   refine (set_spec HC HI (hC.ext w2)).mono fun r C ⟨m,hr⟩=>?_
   have xC:A.Ext C:=((Mod.of_ext (W:=fun f=>A.next≤f) (x.trans w2)).trans m).mono (W':=fun _=>False) (fun f hf hW=>by omega) |>.ext
   have hn:CelC A.next C A.next (newL (l.take (i+1))):=by
    rw[nt]
    unfold newOne
    rw[if_pos hk,show chOf l[i]=⟨l[i].key,l[i].n,true⟩ from rfl]
    rcases hr with ⟨h3,_,h4⟩|⟨h3,_,h4⟩
    ·rw[if_pos h3];exact h4
    ·rw[if_neg (by omega)];exact h4
   simp[e3,e8,e9,e10,ea,-qbq]
   exact⟨d - 1,by omega,xC,i+1,by omega,by omega,by omega,hn⟩
  ·simp at hk
   have hn:CelC A.next B A.next (newL (l.take (i+1))):=by
    rw[nt]
    unfold newOne
    rw[if_neg (by omega)]
    exact hC.ext w2
   simp[e3,e8,e9,e10,ea,-qbq]
   exact⟨d - 1,by omega,x.trans w2,i+1,by omega,by omega,by omega,hn⟩
 ·simp at hc
  have hil:i=l.length:=by omega
  rw[hil,List.take_length] at hC
  simp[e3]
  exact⟨x,hC⟩
end
def ChR:Rec ChD 3:=⟨fun x=>[.str x.key,.int .i64 x.n,.bool x.there],fun _=>rfl,fun _=>rfl,by decide⟩
def allOk (l:List ChD):Bool:=l.all okC
section
variable {D:Disp} {G0:Env} {X:Calls'} {A0:St}
theorem mayC_spec {A:St} {x:ChD}:Ev D G0 fnsL X 252 [.agg (ChR.cells x)] A fun r B=>A.Ext B∧r=.bool (okC x):=by
 refine Ev.fnK (fn:=a252) rfl ⟨by simp[a252],by decide⟩ ?_
 unfold a252
 have x1:=qdq A (ChR.cells x) 1
 have c1:=Cl.make A (ChR.cells x)
 have hle:binOf .leq (.int .i64 (x.key.length:Int)) (.int .i64 16)=some (.bool (decide (x.key.length≤16))):=by
  rw[bin_leq]
  congr 2
  rw[decide_eq_decide]
  omega
 simp[boxV,Made.value]
 generalize (A.make (ChR.cells x) 1).2=A1 at *
 have l0:=c1.ld 0 (v:=.str x.key) rfl
 have l1:=c1.ld 1 (v:=.int .i64 x.n) rfl
 have l2:=c1.ld 2 (v:=.bool x.there) rfl
 unfold okC
 cases hk:decide (x.key.length≤16) with
 | false=>
  rw[hk] at hle
  simp[AV.addr,l0,l1,l2,lenStrV,hle,pickV,-bin_leq]
  exact x1
 | true=>
  rw[hk] at hle
  cases ht:x.there with
  | true=>
   rw[ht] at l2
   simp[AV.addr,l0,l1,l2,lenStrV,hle,pickV,-bin_leq]
   exact x1
  | false=>
   rw[ht] at l2
   simp[AV.addr,l0,l1,l2,lenStrV,hle,pickV,-bin_leq]
   exact x1
theorem mayNot_spec {A:St} {x:ChD}:Ev D G0 fnsL X 251 [.agg (ChR.cells x)] A fun r B=>A.Ext B∧r=.bool (!okC x):=by
 refine Ev.fnK (fn:=a251) rfl ⟨by simp[a251],by decide⟩ ?_
 unfold a251
 have x1:=qdq A (ChR.cells x) 1
 have c1:=Cl.make A (ChR.cells x)
 simp[boxV,Made.value]
 generalize (A.make (ChR.cells x) 1).2=A1 at *
 have l0:loadV A1 3 true (.ptr (some (A.next,0,0)))=some (.agg (ChR.cells x)):=by
  have:=c1.lda 0 3 (by rw[ChR.len];exact Nat.le_refl _)
  rw[this]
  rfl
 simp[l0,qaq,allKnown]
 refine mayC_spec.mono fun r B ⟨x2,hr⟩=>?_
 subst hr
 simp
 exact x1.trans x2
theorem index_spec {A:St} {s:AV} {l:List ChD} (hs:Sl A 3 s (ChR.all l)) (hl:l.length<2^40) :
  Ev D G0 fnsL X 342 [s,.func (.func 251) [] []] A fun r B=>A.Ext B∧∃ i:Int,r=.int .i64 i∧(0≤i↔allOk l=false):=by
 refine Ev.fnK (fn:=a342) rfl ⟨by simp[a342],by decide⟩ ?_
 unfold a342
 have hlen:=hs.rec_lenV
 simp[hlen]
 refine Wp.loopK (fun d E A'=>A.Ext A'∧Env.at E 0=s∧Env.at E 1=.func (.func 251) [] []∧Env.at E 7=.int .i64 l.length∧∃ i:Nat,Env.at E 8=.int .i64 i∧i≤l.length∧i+d=l.length∧allOk (l.take i)=true) l.length ?_ ?_
 ·exact⟨St.Ext.refl A,by simp,by simp,by simp,0,by simp,Nat.zero_le _,by simp,rfl⟩
 rintro d E A' ⟨x,e0,e1,e7,i,e8,h1,h2,h3⟩
 simp[e7,e8,qoq,-qjq]
 refine qeq (fun hc=>?_) (fun hc=>?_)
 ·simp at hc
  have hg:l[i]?=some l[i]:=List.getElem?_eq_getElem hc
  obtain⟨p,g1,g2⟩:=(Sl.ext x hs).rec_at hg .i64
  have ea:=add_one (i:=i) (by omega)
  simp[-qbq] at ea
  have ht:l.take (i+1)=l.take i++[l[i]]:=by rw[List.take_add_one,hg];rfl
  simp[e0,e1,e7,e8,g1,g2,-qbq]
  rw[ops_callv (f:=251) (first:=[]) (captured:=[]) _ _ _ _ _ (by simp) (by simp[allKnown])]
  simp
  refine mayNot_spec.mono fun r B ⟨x2,hr⟩=>?_
  subst hr
  have xx:=x.trans x2
  cases hk:okC l[i] with
  | true=>
   simp[e0,e1,e7,e8,ea,-qbq]
   exact⟨d - 1,by omega,xx,i+1,by omega,by omega,by omega,by unfold allOk at h3 ⊢;rw[ht,List.all_append,h3];simp[hk]⟩
  | false=>
   simp[e0,e1,e7,e8]
   refine⟨xx,?_⟩
   unfold allOk
   rw[List.all_eq_false]
   exact⟨l[i],List.getElem_mem _,by simp[hk]⟩
 ·simp at hc
  have hil:i=l.length:=by omega
  rw[hil,List.take_length] at h3
  simp
  exact⟨x,h3⟩
theorem anyNot_spec {A:St} {s:AV} {l:List ChD} (hs:Sl A 3 s (ChR.all l)) (hl:l.length<2^40) :
  Ev D G0 fnsL X 250 [s,.func (.func 251) [] []] A fun r B=>A.Ext B∧r=.bool (!allOk l):=by
 refine Ev.fnK (fn:=a250) rfl ⟨by simp[a250],by decide⟩ ?_
 unfold a250
 simp[qaq,allKnown,hs.allKnown]
 refine (index_spec hs hl).mono fun r B ⟨x,i,hr,hi⟩=>?_
 subst hr
 have hge:binOf .geq (.int .i64 i) (.int .i64 0)=some (.bool (!allOk l)):=by
  rw[bin_geq]
  congr 2
  cases ha:allOk l with
  | true=>rw[ha] at hi;simp at hi ⊢;omega
  | false=>rw[ha] at hi;simp at hi ⊢;omega
 simp[hge,-bin_geq]
 exact x
end
end Go.Proofs.YtlaoookdegmnnaaGreatDoor
