/- The abstract machine: a text behind one's own bytes; a family as a slice. -/
import Derived.Test.YtlaoookdegmnnaaGreatDoorHpWrap
import Derived.Test.YtlaoookdegmnnaaGreatDoorStFrames
set_option maxRecDepth 100000
set_option linter.unusedSimpArgs false
set_option linter.unusedVariables false
namespace Go.Proofs.YtlaoookdegmnnaaGreatDoor
open Go.AM
theorem rawOf_app:∀ (a c:List (List UInt8)),rawOf (a++c)=match rawOf a with
  | none=>none
  | some x=>(rawOf c).map (x++·)
 | [],c=>by simp[rawOf]
 | r::a,c=>by
  simp only[List.cons_append,rawOf]
  split
  ·rfl
  ·rw[rawOf_app a c]
   cases rawOf a with
   | none=>rfl
   | some x=>cases rawOf c<;>simp
theorem rawOf_step {rs:List (List UInt8)} {i:Nat} {x r:List UInt8} (h:rawOf (rs.take i)=some x) (hr:rs[i]?=some r) :
  (16383<r.length→rawOf rs=none)∧(¬16383<r.length→rawOf (rs.take (i+1))=some (x++frame (0::r))):=by
 constructor
 ·intro hl
  have hi:=(List.getElem?_eq_some_iff.1 hr)
  obtain⟨h1,h2⟩:=hi
  have e:rs=rs.take i++(r::rs.drop (i+1)):=by
   rw[←h2,←List.drop_eq_getElem_cons h1,List.take_append_drop]
  rw[e,rawOf_app,h]
  simp[rawOf,hl]
 ·intro hl
  rw[take_succ_of hr,rawOf_app,h]
  simp[rawOf,hl]
theorem rawOf_len:∀ {rs:List (List UInt8)} {x:List UInt8},rawOf rs=some x→x.length≤16391*rs.length
 | [],x,h=>by cases h;simp
 | r::rs,x,h=>by
  simp only[rawOf] at h
  split at h
  ·cases h
  ·split at h
   ·rename_i y hy
    cases h
    have:=rawOf_len hy
    rw[List.length_append,qmq]
    simp only[List.length_cons]
    omega
   ·cases h
section
variable {D:Disp} {G0:Env} {X:Calls'} {A0:St}
theorem add_spec (HX:RowsX X A0) {b:Nat} {K:Nat→Nat} {A:St} (hA:Wld K A0 A) {j p m:Nat} {jd:JoD} (h:JoC b K A j p m jd) {s:AV} {ps:List AV} {rs:List (List UInt8)} (hs:Sl A 1 s ps) (hp:PartsB A ps rs) (hsr:RoS K s) (hpr:∀ v∈ps,RoS K v) (hn:jd.recs.length+rs.length<2^20) :
  Ev D G0 fnsL X 154 [.ptr (some (j,0,0)),s] A fun r B=>∃ K',KUp K K' A∧Wld K' A0 B∧Mod (JW b K) A B∧JoC b K' B j p m (jd.add rs).2∧EV B r (jd.add rs).1:=by
 refine Ev.fnK (fn:=a154) rfl ⟨by simp[a154],by decide⟩ ?_
 unfold a154
 have hlen:=hs.lenV1
 rw[hp.length] at hlen
 unfold JoD.add
 by_cases hnil:rs=[]
 ·rw[if_pos hnil]
  rw[hnil] at hlen
  simp at hlen
  simp[hlen]
  exact⟨K,KUp.refl K A,hA,Mod.refl A,h,EV.nil A⟩
 rw[if_neg hnil]
 have hpos:rs.length≠0:=fun h=>hnil (List.length_eq_zero_iff.1 h)
 have ez:binOf .eql (.int .i64 (rs.length:Int)) (.int .i64 0)=some (.bool false):=by rw[qqq];simp;exact hnil
 simp[hlen,ez,-qqq]
 refine Wp.loopK (fun d E A'=>A.Ext A'∧Env.at E 0=.ptr (some (j,0,0))∧Env.at E 1=s∧Env.at E 15=s∧Env.at E 16=.int .i64 rs.length∧∃ (i:Nat) (o:AV) (x:List UInt8),Env.at E 17=.int .i64 i∧i+d=rs.length∧Env.at E 5=o∧rawOf (rs.take i)=some x∧OwnB A.next A' o x) rs.length ?_ ?_
 ·exact⟨St.Ext.refl A,by simp,by simp,by simp,by simp,0,.slice none 0 0 0 0,[],by simp,by simp,by simp,by simp[rawOf],.nil _ _ _⟩
 rintro d E A' ⟨x0,e0,e1,e15,e16,i,o,x,e17,hi,e5,hraw,ho⟩
 have hxl:=rawOf_len hraw
 rw[List.length_take] at hxl
 simp[e16,e17,qoq,-qjq]
 refine qeq (fun hc=>?_) (fun hc=>?_)
 ·simp at hc
  obtain⟨v,l,hv,hl',hb⟩:=(hp.ext x0).get (i:=i) (by rw[hp.length];exact hc)
  obtain⟨q,g1,g2⟩:=(Sl.ext x0 hs).at_one hv .i64
  have ea:=add_one (i:=i) (by omega)
  simp[-qbq] at ea
  obtain⟨s1,s2⟩:=rawOf_step hraw hl'
  have eg:binOf .gtr (.int .i64 (l.length:Int)) (.int .i64 16383)=some (.bool (decide (16383<l.length))):=by rw[qfq];simp;omega
  by_cases hbig:16383<l.length
  ·simp only[s1 hbig]
   simp[e0,e1,e15,e16,e17,e5,g1,g2,hb.lenV,eg,hbig,qaq,allKnown,-qfq]
   refine (new_spec (e:=7) (by decide)).mono fun r B ⟨x1,h1⟩=>?_
   obtain⟨ty,u,rfl⟩:=h1.isIface
   simp[hb.lenV,qaq,allKnown]
   refine (bound_spec h1).mono fun r B2 ⟨x2,h2⟩=>?_
   obtain⟨ty,u,rfl⟩:=h2.isIface
   simp[qaq,allKnown]
   refine (at_spec h2).mono fun r B3 ⟨x3,h3⟩=>?_
   obtain⟨ty,u,rfl⟩:=h3.isIface
   have xx:=((x0.trans x1).trans x2).trans x3
   simp
   exact⟨K,KUp.refl K A,hA.ext xx,Mod.of_ext xx,h.ext xx,h3.ev (by decide)⟩
  ·have hr2:=s2 hbig
   simp[e0,e1,e15,e16,e17,e5,g1,g2,hb.lenV,eg,hbig,fillA,splice,Made.value,hb.notBot,hb.cells,-qfq]
   have c1:=own_built A' (cs:=[AV.int .u8 0]) (n:=1) rfl
   have x1:=qdq A' [AV.int .u8 0] 1
   generalize hA1:(A'.make [AV.int .u8 0] 1).2=A1 at *
   have hnx1:A1.next=A'.next+1:=by rw[←hA1];rfl
   have c2:=own_built A1 (cs:=[AV.slice (some (A'.next,0,0)) 0 1 1 0,v]) (n:=2) rfl
   have x2:=qdq A1 [AV.slice (some (A'.next,0,0)) 0 1 1 0,v] 1
   generalize (A1.make [AV.slice (some (A'.next,0,0)) 0 1 1 0,v] 1).2=A2 at *
   have hx0:[AV.int .u8 0]=bytesV [0]:=rfl
   have hb0:Bs A2 (.slice (some (A'.next,0,0)) 0 1 1 0) [0]:=Sl.ext x2 c1.sl
   have hbv:Bs A2 v l:=Sl.ext (x1.trans x2) hb
   have x02:=(x0.trans x1).trans x2
   simp[qaq,allKnown]
   refine (wrap_spec (ls:=[[0],l]) c2.sl ⟨hb0,hbv,trivial⟩ (by simp) (by simp;omega)).mono fun w B hw=>?_
   simp only[List.flatten_cons,List.flatten_nil,List.append_nil,List.cons_append,List.nil_append,List.length_cons] at hw
   rcases hw with ⟨_,x3,hw⟩|⟨hbad,_⟩
   rotate_left
   ·omega
   have hws:Bs B w (frame (0::l)):=hw.sl
   have xB:=x02.trans x3
   have hol:=Bs.len ho.sl
   have hoB:=((ho.ext x1).ext x2).ext x3
   obtain⟨o',C,k1,k2,k3,k4,k5⟩:=qpq (bytes:=1) hoB hws xB.next (by decide) (bytesV_flat _) (by rw[hol,Bs.len hws,qmq];simp;omega) (by rw[hol,Bs.len hws,qmq];simp;omega)
   simp[e17,k1,ea,-qbq]
   refine⟨d - 1,by omega,k4.ext xB hoB,e0,e1,e15,e16,i+1,by omega,by omega,_,hr2,?_⟩
   show AM.Own A.next C 1 o' (bytesV _)
   rw[qzq]
   exact k3
 ·simp at hc
  have hil:i=rs.length:=by omega
  rw[hil,List.take_length] at hraw
  simp only[hraw]
  have hA1:=hA.ext x0
  have hJ1:=h.ext x0
  have hol:=(show Bs A' o x from ho.sl).lenV
  simp[e0,e5,hol,qaq,allKnown]
  refine (roll_spec HX hA1 hJ1 (n:=x.length) (by omega)).mono fun r B ⟨m1,t1,v,hr,hv⟩=>?_
  subst hr
  rcases hR:jd.roll x.length with ⟨s0,er,t0⟩
  rw[hR] at t1 hv
  simp only at t1 hv
  have hJ2:=hJ1.tape m1 t1
  have md1:Mod (JW b K) A B:=(Mod.of_ext x0).trans (m1.mono fun f _ hf=>h.tw f hf)
  have hA2:=hA.mod md1 fun f hf=>hf.ne0
  rcases hv with ⟨h0,rfl⟩|⟨h0,n,ty,u,hk,rfl,h2⟩
  rotate_left
  ·simp[eqV,eqOf,h0]
   exact⟨K,KUp.refl K A,hA2,md1,hJ2,h2.ev hk⟩
  have hob:Bs B o x:=(show Bs A' o x from ho.sl).mod m1 fun f hf hW=>by
   have h1:=ho.into hf
   have h2:=h.tp.cl.lt
   obtain⟨l,c,h3,_⟩:=h.tp.ex
   have h4:=h3.lt
   omega
  obtain⟨st',rs',ps',h1',_⟩:=hJ2.ex
  have l0:=h1'.ld 0 (v:=.ptr (some (p,0,0))) rfl
  have c1:=own_built B (cs:=[o]) (n:=1) rfl
  have x1:=qdq B [o] 1
  simp[eqV,eqOf,h0,e0,e5,AV.addr,l0,fillA,splice,Made.value,hob.notBot,hob.cells,qaq,allKnown]
  generalize (B.make [o] 1).2=B1 at *
  have hA3:=hA2.ext x1
  have hJ3:=hJ2.ext x1
  refine (append_spec HX hA3 hJ3.tp (k:=s0) c1.sl (Sl.ext x1 hob) (by omega)).mono fun r C ⟨m2,t2,hr⟩=>?_
  subst hr
  rcases hS:t0.append s0 [x] with ⟨ea,ta⟩
  rw[hS] at t2
  simp only at t2
  have hJ4:=hJ3.tape m2 t2
  have md2:Mod (JW b K) A C:=(md1.trans (Mod.of_ext x1)).trans (m2.mono fun f _ hf=>h.tw f hf)
  simp[qaq,allKnown]
  refine on_spec.mono fun r C2 ⟨x2,hv⟩=>?_
  have md3:=md2.trans (Mod.of_ext x2)
  have hA4:=hA.mod md3 fun f hf=>hf.ne0
  have hJ5:=hJ4.ext x2
  rcases hv with ⟨ha0,rfl⟩|⟨ha0,n,ty,u,hk,rfl,h2⟩
  rotate_left
  ·simp[eqV,eqOf,ha0]
   exact⟨K,KUp.refl K A,hA4,md3,hJ5,h2.ev hk⟩
  have hs0:0≤s0∧s0≤1048576:=by
   by_cases ht:t0.there s0 true=0
   ·exact (there_zero ht).1
   ·rw[append_there ht] at hS
    have:t0.there s0 true=ea:=congrArg (·.1) hS
    omega
  obtain⟨C3,w1,m4,hJ6⟩:=hJ5.setCur (c:=s0) (by omega)
  have md4:=md3.trans m4
  have hsl1:=(show Sl C3 1 s ps from hs.mod md4 fun f hf hW=>hW.ne0 (hsr f hf)).lenV1
  rw[hp.length] at hsl1
  simp[eqV,eqOf,ha0,e0,e1,AV.addr,w1,hlen]
  refine Wp.loopK (fun d E A'=>∃ K',KUp K K' A∧Wld K' A0 A'∧Mod (JW b K) A A'∧Env.at E 0=.ptr (some (j,0,0))∧Env.at E 64=s∧Env.at E 65=.int .i64 rs.length∧∃ i:Nat,Env.at E 66=.int .i64 i∧i+d=rs.length∧JoC b K' A' j p m { jd with t:=ta,cur:=s0,recs:=jd.recs++rs.take i }) rs.length ?_ ?_
  ·exact⟨K,KUp.refl K A,hA.mod md4 fun f hf=>hf.ne0,md4,by simp[e0],by simp[e1],by simp,0,by simp,by simp,by simpa using hJ6⟩
  rintro d2 E2 A6 ⟨K2,u2,hW2,md6,f0,f64,f65,i2,f66,hi2,hJ⟩
  simp[f65,f66,qoq,-qjq]
  refine qeq (fun hc2=>?_) (fun hc2=>?_)
  ·simp at hc2
   have hs6:Sl A6 1 s ps:=hs.mod md6 fun f hf hW=>hW.ne0 (hsr f hf)
   have hp6:PartsB A6 ps rs:=PartsB.mod md6 hp fun v hv f hf hW=>hW.ne0 (hpr v hv f hf)
   obtain⟨v,l,hv,hl',hb⟩:=hp6.get (i:=i2) (by rw[hp.length];exact hc2)
   obtain⟨q,g1,g2⟩:=hs6.at_one hv .i64
   have ea2:=add_one (i:=i2) (by omega)
   simp[-qbq] at ea2
   have hll:l.length≤16383:=by
    obtain⟨r1,_⟩:=rawOf_step (rs:=rs) (i:=i2) (r:=l) (x:=(rawOf (rs.take i2)).getD []) (by
     have:=rawOf_app (rs.take i2) (rs.drop i2)
     rw[List.take_append_drop,hraw] at this
     cases h:rawOf (rs.take i2) with
     | none=>rw[h] at this;cases this
     | some y=>rfl) hl'
    rcases Nat.lt_or_ge 16383 l.length with h|h
    ·rw[r1 h] at hraw;cases hraw
    ·exact h
   simp[f64,f66,g1,g2]
   refine Wp.envI (fun E=>Env.at E 0=.ptr (some (j,0,0))∧Env.at E 64=s∧Env.at E 65=.int .i64 rs.length∧Env.at E 66=.int .i64 i2∧Env.at E 11=v) (by simp[f0,f64,f65,f66]) ?_
   rintro E3 ⟨k0,k64,k65,k66,k11⟩
   obtain⟨st6,rs6,ps6,h6,_⟩:=hJ.ex
   have l4:=h6.ld 4 (v:=rs6) rfl
   refine Wp.draws ?_
   simp[k0,k11,AV.addr,l4,qiq,allKnown,hb.allKnown]
   refine (clone_spec hb (by omega)).mono fun w C6 ⟨x6,ho6⟩=>?_
   have hws:Bs C6 w l:=ho6.sl
   have hW6:=hW2.ext x6
   have hro:RoS K2 w:=fun f hf=>hW2.fresh f (ho6.into hf)
   obtain⟨rsx,s',B6,C7,K3,p1,p2,p3,p4,p5,p6,p7,p8,u3,fr3,hJ7,md7⟩:=(hJ.ext x6).push hW6.fresh hws hro (by omega) (by simp;omega)
   have hx:rsx=rs6:=by
    have:=(h6.ext x6).ld 4 (v:=rs6) rfl
    rw[p1] at this
    exact Option.some.inj this
   subst hx
   have l4m:=p4 (C6.make [w] 1).2 ((qdq C6 [w] 1).get j (h6.ext x6).lt)
   have hW7:=hW6.mod md7 fun f hf=>hf.ne0
   have hnx:=hW6.glob.next
   have hWn:Wld K3 A0 C7:=⟨hW7.glob,fun f hf=>by rw[u3 f (by omega)];exact hW6.low f hf,fr3⟩
   have hAC:A.next≤C6.next:=Nat.le_trans md6.next x6.next
   have mdn:Mod (JW b K) A C7:=JW_new u2 (md6.trans (Mod.of_ext x6)) md7
   simp[fillA,splice,Made.value,hws.notBot,hws.cells,k0,AV.addr,p5,p8,InAll,l4,p1,l4m,p3,k66,ea2,-qbq]
   refine⟨d2 - 1,by omega,K3,KUp.trans u2 u3 hAC,hWn,mdn,k64,k65,i2+1,by omega,by omega,?_⟩
   rw[take_succ_of hl',←List.append_assoc]
   exact hJ7
  ·simp at hc2
   have hil2:i2=rs.length:=by omega
   rw[hil2,List.take_length] at hJ
   simp
   exact⟨K2,u2,hW2,md6,hJ,EV.nil _⟩
end
section
variable {D:Disp} {G0:Env} {X:Calls'} {A0:St}
theorem write_spec' (HX:RowsX X A0) {b:Nat} {K:Nat→Nat} {A:St} (hA:Wld K A0 A) {j p m:Nat} {jd:JoD} (h:JoC b K A j p m jd) {s:AV} {ps:List AV} {rs:List (List UInt8)} (hs:Sl A 1 s ps) (hp:PartsB A ps rs) (hsr:RoS K s) (hpr:∀ v∈ps,RoS K v) (hn:jd.recs.length+rs.length<2^20) :
  Ev D G0 fnsL X 68 [.ptr (some (j,0,0)),s] A fun r B=>∃ K',KUp K K' A∧Wld K' A0 B∧Mod (JW b K) A B∧JoC b K' B j p m (jd.write rs).2∧r=.int .i64 (jd.write rs).1:=by
 refine Ev.fnK (fn:=a68) rfl ⟨by simp[a68],by decide⟩ ?_
 unfold a68
 simp[eqV,eqOf,qaq,allKnown,hs.allKnown]
 refine (add_spec HX hA h hs hp hsr hpr hn).mono fun r B ⟨K1,u1,w1,m1,j1,e1⟩=>?_
 unfold JoD.write
 rcases e1 with ⟨h0,rfl⟩|⟨h0,n,ty,u,hk,rfl,h2⟩
 ·rw[if_neg (by simp[h0])]
  simp[eqV,eqOf,qaq,allKnown]
  refine (jsync_spec HX w1 j1).mono fun r C ⟨m2,j2,e2⟩=>?_
  subst e2
  simp
  exact⟨K1,u1,w1.mod m2 fun f hf=>hf.ne0,JW_new u1 m1 m2,j2⟩
 ·rw[if_pos h0]
  simp[eqV,eqOf,qaq,allKnown]
  refine (qvq HX w1.glob (h2.ev hk)).mono fun r C ⟨q1,q2⟩=>?_
  subst q1 q2
  simp
  exact⟨K1,u1,w1,m1,j1⟩
theorem JoC.setSaved {b:Nat} {K:Nat→Nat} {A:St} {j p m:Nat} {jd:JoD} (h:JoC b K A j p m jd) {c:Int} (hc:-1≤c∧c≤1048576) {st:AV} {l:List UInt8} (hst:Bs A st l) (hro:RoS K st) (hl:l.length<2^40) :
  ∃ B1 B2 B3,storeV A 1 (.ptr (some (j,0,2))) (.int .i64 c)=some (.bot,B1)∧storeV B1 1 (.ptr (some (j,0,3))) st=some (.bot,B2)∧storeV B2 1 (.ptr (some (j,0,4))) (.slice none 0 0 0 0)=some (.bot,B3)∧Mod (JW b K) A B3∧JoC b K B3 j p m { jd with cur:=c,state:=l,recs:=[] }:=by
 obtain⟨s0,rs,ps,h1,h2,h3,h4,h5,h6,h7⟩:=h.ex
 obtain⟨a1,a2⟩:=h1.st 2 (by simp) (v:=.int .i64 c) rfl rfl rfl
 simp at a1 a2
 obtain⟨b1,b2⟩:=a2.st 3 (by simp) (v:=st) (Sl.flat hst) (Sl.cells hst) (Sl.notBot hst)
 simp at b1 b2
 obtain⟨c1,c2⟩:=b2.st 4 (by simp) (v:=.slice none 0 0 0 0) rfl rfl rfl
 simp at c1 c2
 have hk:=h.kj
 refine⟨_,_,_,a1,b1,c1,?_⟩
 have m1:Mod (fun f=>f=j) A (A.put j (.cells [.ptr (some (p,0,0)),.int .i64 jd.seg,.int .i64 c,s0,rs] [⟨0,0,5,1⟩] 1 false)):=mod_put A j _ rfl
 generalize A.put j (.cells [.ptr (some (p,0,0)),.int .i64 jd.seg,.int .i64 c,s0,rs] [⟨0,0,5,1⟩] 1 false)=B1 at *
 have m2:Mod (fun f=>f=j) B1 (B1.put j (.cells [.ptr (some (p,0,0)),.int .i64 jd.seg,.int .i64 c,st,rs] [⟨0,0,5,1⟩] 1 false)):=mod_put B1 j _ rfl
 generalize B1.put j (.cells [.ptr (some (p,0,0)),.int .i64 jd.seg,.int .i64 c,st,rs] [⟨0,0,5,1⟩] 1 false)=B2 at *
 have m3:Mod (fun f=>f=j) B2 (B2.put j (.cells [.ptr (some (p,0,0)),.int .i64 jd.seg,.int .i64 c,st,.slice none 0 0 0 0] [⟨0,0,5,1⟩] 1 false)):=mod_put B2 j _ rfl
 have mC:=(m1.trans m2).trans m3
 generalize B2.put j _=B3 at *
 refine⟨mC.mono fun f _ hf=>by subst hf;exact .inr hk,h.tp.mod mC fun f hf=>by subst hf;omega,⟨st,.slice none 0 0 0 0,[],c2,Sl.mod hst mC (fun f hf hW=>by subst hW;have:=hro _ hf;omega),hro,.nil _ _ _,trivial,fun v hv=>(by cases hv),fun f hf=>(by cases hf)⟩,hk,⟨hc,h.ok.seg,hl,fun r hr=>by cases hr⟩⟩
end
theorem sync_fields (j:JoD):j.sync.2={ j with t:=j.sync.2.t }:=by
 unfold JoD.sync
 split<;>rfl
theorem there_of_append {t t':TpD} {k:Int} {x:List UInt8} (h:t.append k [x]=(0,t')):0≤k∧k≤1048576:=by
 by_cases ht:t.there k true=0
 ·exact (there_zero ht).1
 ·rw[append_there ht] at h
  exact absurd (congrArg (·.1) h) ht
section
variable {jd:JoD} {l:List UInt8} (hl:¬16383<l.length)
include hl
theorem save_one (h:jd.sync.1≠0):jd.save l=jd.sync:=by
 unfold JoD.save
 rw[if_neg hl]
 simp only
 rw[if_pos h]
theorem save_two {e:Int} {t:TpD} (h:jd.sync.1=0) (ha:jd.sync.2.t.append (jd.cur+1) [frame (1::l)]=(e,t)) (he:e≠0):jd.save l=(e,{ jd with t:=t }):=by
 unfold JoD.save
 rw[if_neg hl]
 simp only
 rw[if_neg (by simp[h]),ha,if_pos he]
theorem save_three {e:Int} {t t3:TpD} (h:jd.sync.1=0) (ha:jd.sync.2.t.append (jd.cur+1) [frame (1::l)]=(0,t)) (hb:t.sync (jd.cur+1)=(e,t3)) (he:e≠0):jd.save l=(e,{ jd with t:=(t3.drop (jd.cur+1)).2 }):=by
 unfold JoD.save
 rw[if_neg hl]
 simp only
 rw[if_neg (by simp[h]),ha,if_neg (by simp)]
 simp only
 rw[hb,if_pos he]
theorem save_four {t t3:TpD} (h:jd.sync.1=0) (ha:jd.sync.2.t.append (jd.cur+1) [frame (1::l)]=(0,t)) (hb:t.sync (jd.cur+1)=(0,t3)):jd.save l=((clearL (jd.cur+1) t3.keys t3).1,{ jd with t:=(clearL (jd.cur+1) t3.keys t3).2,cur:=jd.cur+1,state:=l,recs:=[] }):=by
 unfold JoD.save
 rw[if_neg hl]
 simp only
 rw[if_neg (by simp[h]),ha,if_neg (by simp)]
 simp only
 rw[hb,if_neg (by simp)]
end
section
variable {D:Disp} {G0:Env} {X:Calls'} {A0:St}
theorem save_spec' (HX:RowsX X A0) {b:Nat} {K:Nat→Nat} {A:St} (hA:Wld K A0 A) {j p m:Nat} {jd:JoD} (h:JoC b K A j p m jd) {sv:AV} {l:List UInt8} (hs:Bs A sv l) (hsr:RoS K sv) (hl:l.length<2^40) :
  Ev D G0 fnsL X 77 [.ptr (some (j,0,0)),sv] A fun r B=>Mod (JW b K) A B∧JoC b K B j p m (jd.save l).2∧r=.int .i64 (jd.save l).1:=by
 refine Ev.fnK (fn:=a77) rfl ⟨by simp[a77],by decide⟩ ?_
 unfold a77
 have eg:binOf .gtr (.int .i64 (l.length:Int)) (.int .i64 16383)=some (.bool (decide (16383<l.length))):=by rw[qfq];simp;omega
 by_cases hbig:16383<l.length
 ·have e:jd.save l=(7,jd):=by unfold JoD.save;rw[if_pos hbig]
  rw[e]
  simp[eqV,eqOf,hs.lenV,eg,hbig,-qfq]
  exact⟨Mod.refl A,h⟩
 simp[eqV,eqOf,hs.lenV,eg,hbig,qaq,allKnown,-qfq]
 refine (jsync_spec HX hA h).mono fun r B ⟨m1,j1,e1⟩=>?_
 subst e1
 have hsf:=sync_fields jd
 by_cases he1:jd.sync.1=0
 rotate_left
 ·rw[save_one hbig he1]
  simp[he1]
  exact⟨m1,j1⟩
 have hok:=h.ok
 have ea:binOf .add (.int .i64 jd.cur) (.int .i64 1)=some (.int .i64 (jd.cur+1)):=by
  rw[qbq,IntKind.wrap_i64]
  have:=hok.cur
  congr 2
  omega
 obtain⟨st,rs,ps,h1,_⟩:=j1.ex
 have hcur:jd.sync.2.cur=jd.cur:=by rw[hsf]
 rw[hcur] at h1
 have l0:=h1.ld 0 (v:=.ptr (some (p,0,0))) rfl
 have l2:=h1.ld 2 (v:=.int .i64 jd.cur) rfl
 have hA1:=hA.mod m1 fun f hf=>hf.ne0
 have hs1:Bs B sv l:=Sl.mod hs m1 fun f hf hW=>hW.ne0 (hsr f hf)
 simp[he1,AV.addr,l2,ea,-qbq]
 refine Wp.envI (fun E=>Env.at E 0=.ptr (some (j,0,0))∧Env.at E 1=sv∧Env.at E 6=.int .i64 (jd.cur+1)) (by simp) ?_
 rintro E ⟨e0,e1',e6⟩
 refine Wp.draws ?_
 simp[e0,e1',e6,AV.addr,l0,fillA,splice,Made.value,hs1.notBot,hs1.cells]
 have c1:=own_built B (cs:=[AV.int .u8 1]) (n:=1) rfl
 have x1:=qdq B [AV.int .u8 1] 1
 generalize hB1:(B.make [AV.int .u8 1] 1).2=B1 at *
 have c2:=own_built B1 (cs:=[AV.slice (some (B.next,0,0)) 0 1 1 0,sv]) (n:=2) rfl
 have x2:=qdq B1 [AV.slice (some (B.next,0,0)) 0 1 1 0,sv] 1
 generalize hB2:(B1.make [AV.slice (some (B.next,0,0)) 0 1 1 0,sv] 1).2=B2 at *
 have hb0:Bs B2 (.slice (some (B.next,0,0)) 0 1 1 0) [1]:=Sl.ext x2 c1.sl
 have hbv:Bs B2 sv l:=Sl.ext (x1.trans x2) hs1
 simp[qiq,allKnown]
 refine (wrap_spec (ls:=[[1],l]) c2.sl ⟨hb0,hbv,trivial⟩ (by simp) (by simp;omega)).mono fun w C hw=>?_
 simp only[List.flatten_cons,List.flatten_nil,List.append_nil,List.cons_append,List.nil_append,List.length_cons] at hw
 rcases hw with ⟨_,x3,hw⟩|⟨hbad,_⟩
 rotate_left
 ·omega
 have hws:Bs C w (frame (1::l)):=hw.sl
 have x13:=(x1.trans x2).trans x3
 have c3:=own_built C (cs:=[w]) (n:=1) rfl
 have x4:=qdq C [w] 1
 simp[fillA,splice,Made.value,hws.notBot,hws.cells]
 generalize hC1:(C.make [w] 1).2=C1 at *
 have x14:=x13.trans x4
 have j2:=j1.ext x14
 have hA2:=hA1.ext x14
 have L0:∀ {Z:St},B.Ext Z→loadV Z 1 false (.ptr (some (j,0,0)))=some (.ptr (some (p,0,0))):=fun x=>(h1.ext x).ld 0 rfl
 simp[qiq,allKnown]
 refine (append_spec HX hA2 j2.tp (k:=jd.cur+1) c3.sl (Sl.ext x4 hws) (by rw[qmq];simp;omega)).mono fun r G ⟨m2,t2,hr⟩=>?_
 subst hr
 rcases hS:jd.sync.2.t.append (jd.cur+1) [frame (1::l)] with ⟨ea2,ta⟩
 rw[hS] at t2
 simp only at t2
 have j3:=j2.tape m2 t2
 have md2:Mod (JW b K) A G:=(m1.trans (Mod.of_ext x14)).trans (m2.mono fun f _ hf=>h.tw f hf)
 simp[qiq,allKnown]
 refine on_spec.mono fun r G2 ⟨x5,hv⟩=>?_
 have hkn:known r=some r:=by
  rcases hv with ⟨_,rfl⟩|⟨_,k,ty,u,_,rfl,_⟩<;>rfl
 have md3:=md2.trans (Mod.of_ext x5)
 have j4:=j3.ext x5
 have hA4:=hA.mod md3 fun f hf=>hf.ne0
 simp[InAll,AV.beq,L0 (St.Ext.refl B),L0 x1,L0 (x1.trans x2),L0 x13,L0 x14]
 rcases hv with ⟨ha0,rfl⟩|⟨ha0,n,ty,u,hk,rfl,h2⟩
 rotate_left
 ·rw[save_two hbig he1 hS ha0]
  simp[eqV,eqOf,qaq,allKnown]
  refine (qvq HX hA4.glob (h2.ev hk)).mono fun r G3 ⟨q1,q2⟩=>?_
  subst q1 q2
  simp
  refine⟨md3,?_⟩
  rw[hsf] at j4
  exact j4
 subst ha0
 have hs0:=there_of_append hS
 obtain⟨st4,rs4,ps4,h4,_⟩:=j4.ex
 have l04:=h4.ld 0 (v:=.ptr (some (p,0,0))) rfl
 simp[eqV,eqOf,e0,e1',e6,AV.addr,l04,qaq,allKnown]
 refine Ev.mono (sync_spec HX hA4 j4.tp (k:=jd.cur+1)) fun r G3 ⟨m5,t5,hr⟩=>?_
 subst hr
 rcases hT:ta.sync (jd.cur+1) with ⟨eb,tb⟩
 simp only at t5
 rw[hT] at t5
 simp only at t5
 have j5:=j4.tape m5 t5
 have md5:=md3.trans (m5.mono fun f _ hf=>h.tw f hf)
 simp[qaq,allKnown]
 refine on_keeps.mono fun r G4 ⟨x6,hv,hkeep⟩=>?_
 have md6:=md5.trans (Mod.of_ext x6)
 have j6:=j5.ext x6
 have hA6:=hA.mod md6 fun f hf=>hf.ne0
 obtain⟨st6,rs6,ps6,h6,_⟩:=j6.ex
 have l06:=h6.ld 0 (v:=.ptr (some (p,0,0))) rfl
 rcases hv with ⟨hb0,rfl⟩|⟨hb0,n,ty,u,hk,rfl,h2⟩
 rotate_left
 ·rw[save_three hbig he1 hS hT hb0]
  simp[eqV,eqOf,e0,e1',e6,AV.addr,l06,qaq,allKnown]
  refine (drop_spec HX hA6 j6.tp (k:=jd.cur+1)).mono fun r7 G7 ⟨m7,t7,_⟩=>?_
  have j7:=j6.tape m7 t7
  have md7:=md6.trans (m7.mono fun f _ hf=>h.tw f hf)
  have hA7:=hA.mod md7 fun f hf=>hf.ne0
  have hp5:=j5.tp.cl.lt
  obtain⟨l5,c5,hm5,_⟩:=j5.tp.ex
  have hm5:=hm5.lt
  have hev:=hkeep G7 m7.next fun f h1 h2=>m7.get f h2 (by omega)
  simp[qaq,allKnown]
  refine (qvq HX hA7.glob hev).mono fun r8 G8 ⟨q1,q2⟩=>?_
  subst q1 q2
  simp
  refine⟨md7,?_⟩
  rw[hsf] at j7
  exact j7
 subst hb0
 rw[save_four hbig he1 hS hT]
 have hs6:Bs G4 sv l:=Sl.mod hs md6 fun f hf hW=>hW.ne0 (hsr f hf)
 simp[eqV,eqOf,e0,e1',e6,AV.addr,qaq,allKnown,hs6.allKnown]
 refine (clone_spec hs6 hl).mono fun w2 G5 ⟨x7,hw2⟩=>?_
 have j7:=j6.ext x7
 have hw2s:Bs G5 w2 l:=hw2.sl
 obtain⟨Z1,Z2,Z3,z1,z2,z3,m8,j8⟩:=j7.setSaved (c:=jd.cur+1) (by omega) hw2s (fun f hf=>hA6.fresh f (hw2.into hf)) hl
 have md8:=(md6.trans (Mod.of_ext x7)).trans m8
 have hA8:=hA.mod md8 fun f hf=>hf.ne0
 simp[AV.addr,z1,z2,z3,qaq,allKnown,e0]
 refine (clear_spec HX hA8 j8).mono fun r G6 ⟨m9,j9,hv⟩=>?_
 have md9:=md8.trans m9
 have hA9:=hA.mod md9 fun f hf=>hf.ne0
 have hkn:allKnown [r]=true:=by
  rcases hv with ⟨_,rfl⟩|⟨_,k,ty,u,_,rfl,_⟩<;>rfl
 simp only at j9 hv
 simp[qaq,hkn]
 refine (qvq HX hA9.glob hv).mono fun r G7 ⟨q1,q2⟩=>?_
 subst q1 q2
 simp
 refine⟨md9,?_⟩
 rw[hsf] at j9
 exact j9
end
section
variable {D:Disp} {G0:Env} {X:Calls'} {A0:St}
theorem frames_spec (HX:RowsX X A0) {b:Nat} {K:Nat→Nat} {A:St} (hA:Wld K A0 A) {j p m:Nat} {jd:JoD} (h:JoC b K A j p m jd) {k:Int} (hk:0≤k∧k≤1048576) :
  Ev D G0 fnsL X 267 [.ptr (some (j,0,0)),.int .i64 k] A fun r B=>A.Ext B∧∃ v ps,r=.tuple [v,.int .i64 (span (bodies (jd.t.seg k).b):Nat)]∧Sl B 1 v ps∧PartsB B ps (bodies (jd.t.seg k).b)∧(∀ f,v.into f=true→A.next≤f)∧∀ w∈ps,∀ f,w.into f=true→A.next≤f:=by
 refine Ev.fnK (fn:=a267) rfl ⟨by simp[a267],by decide⟩ ?_
 unfold a267
 obtain⟨st,rs,qs,h1,_⟩:=h.ex
 have l0:=h1.ld 0 (v:=.ptr (some (p,0,0))) rfl
 have hfs:=h.tp.ok.few_seg k
 simp[AV.addr,l0,qaq,allKnown]
 refine (read_spec HX hA h.tp (k:=k)).mono fun r B ⟨x1,v,e,hr,hb⟩=>?_
 subst hr
 have hb:=hb hk
 have hbs:Bs B v (jd.t.seg k).b:=hb.sl
 simp[qaq,allKnown,hbs.allKnown]
 refine (all_spec hbs (by omega)).mono fun r C ⟨x2,v2,ps,hr,h3,h4,h5,h6⟩=>?_
 subst hr
 simp[h3.known]
 exact⟨x1.trans x2,ps,h3,h4,fun f hf=>Nat.le_trans x1.next (h5 f hf),fun w hw f hf=>Nat.le_trans x1.next (h6 w hw f hf)⟩
theorem byteV_one (c d:UInt8):binOf .eql (byteV c) (byteV d)=some (.bool (decide (c=d))):=by
 unfold byteV
 simp only[binOf,isShift,binInt,Option.some.injEq,AV.bool.injEq]
 by_cases h:c=d
 ·subst h;simp
 ·have:c.toNat≠d.toNat:=fun h0=>h (UInt8.toNat_inj.1 h0)
  rw[decide_eq_false h]
  simp
  omega
theorem saved_spec {A:St} {v:AV} {ps:List AV} {ls:List (List UInt8)} (hs:Sl A 1 v ps) (hp:PartsB A ps ls):Ev D G0 fnsL X 270 [v] A fun r B=>A=B∧r=.bool (isSaved ls):=by
 refine Ev.fnK (fn:=a270) rfl ⟨by simp[a270],by decide⟩ ?_
 unfold a270
 have hl:=hs.lenV1
 match ps,ls,hp with
 | [],[],_=>
  simp at hl
  simp[hl]
  rfl
 | q::qs,l::ls,hp=>
  obtain⟨z,g1,g2⟩:=hs.at_one (j:=0) (v:=q) rfl .i64
  have hq:=(show Bs A q l from hp.1).lenV
  simp at hl g1
  have eg1:binOf .gtr (.int .i64 ((qs.length:Int)+1)) (.int .i64 0)=some (.bool true):=by rw[qfq];simp
  cases l with
  | nil=>
   simp at hq
   have eg2:binOf .gtr (.int .i64 0) (.int .i64 0)=some (.bool false):=by rw[qfq];simp
   simp[hl,eg1,g1,g2,hq,eg2,-qfq]
   rfl
  | cons c l=>
   obtain⟨z2,g3,g4⟩:=(show Bs A q (c::l) from hp.1).at_one (j:=0) (v:=byteV c) rfl .i64
   have eg2:binOf .gtr (.int .i64 ((l.length:Int)+1)) (.int .i64 0)=some (.bool true):=by rw[qfq];simp
   have eb:binOf .eql (byteV c) (.int .u8 1)=some (.bool (decide (c=1))):=byteV_one c 1
   simp at hq g3
   simp[hl,eg1,g1,g2,hq,eg2,g3,g4,eb,-qfq,-qqq]
   simp only[isSaved]
   rw[Bool.eq_iff_iff]
   simp
end
theorem key_range {t:TpD} (h:TpOk t) {k:Int} (hk:k∈t.keys):0≤k∧k≤1048576:=by
 have hk2:k∈keysA t.segs:=(qrq leI _).mem_iff.1 hk
 obtain⟨y,hy,e⟩:=List.mem_map.1 hk2
 rw[←e]
 exact h.keys y hy
section
variable {D:Disp} {G0:Env} {X:Calls'} {A0:St}
theorem mend_spec (HX:RowsX X A0) {b:Nat} {K:Nat→Nat} {A:St} (hA:Wld K A0 A) {j p m:Nat} {jd:JoD} (h:JoC b K A j p m jd) (hcur:jd.cur=-1) :
  Ev D G0 fnsL X 164 [.ptr (some (j,0,0))] A fun r B=>Mod (JW b K) A B∧JoC b K B j p m { jd with t:=(mendL jd.t.keys.reverse jd.t).2.2,cur:=(mendL jd.t.keys.reverse jd.t).2.1 }∧EV B r (mendL jd.t.keys.reverse jd.t).1:=by
 refine Ev.fnK (fn:=a164) rfl ⟨by simp[a164],by decide⟩ ?_
 unfold a164
 obtain⟨st,rs,ps,h1,_⟩:=h.ex
 have l0:=h1.ld 0 (v:=.ptr (some (p,0,0))) rfl
 simp[AV.addr,l0,qaq,allKnown]
 refine (segs_spec HX hA.glob h.tp).mono fun r B ⟨x1,hs,hfr⟩=>?_
 have hlen:=hs.lenV1
 simp at hlen
 have hkf:=keys_few h.tp.ok
 have hkr:∀ k∈jd.t.keys,0≤k∧k≤1048576:=fun k hk=>key_range h.tp.ok hk
 have es:binOf .sub (.int .i64 (jd.t.keys.length:Int)) (.int .i64 1)=some (.int .i64 ((jd.t.keys.length:Int) - 1)):=by
  rw[qsq,IntKind.wrap_i64]
  congr 2
  omega
 simp[hlen,hs.known,es,-qsq]
 generalize hks:jd.t.keys=ks at *
 generalize hC:mendL ks.reverse jd.t=CC at *
 have hplt:=h.tp.cl.lt
 obtain⟨lm,cm,hmm,_⟩:=h.tp.ex
 have hmlt:=hmm.lt
 refine Wp.loopK (fun d E A'=>Mod (JW b K) A A'∧Env.at E 0=.ptr (some (j,0,0))∧Env.at E 3=r∧Sl A' 1 r (ks.map (AV.int .i64))∧∃ (t':TpD),Env.at E 4=.int .i64 ((d:Int) - 1)∧d≤ks.length∧JoC b K A' j p m { jd with t:=t' }∧mendL (ks.take d).reverse t'=CC) ks.length ?_ ?_
 ·exact⟨Mod.of_ext x1,by simp,by simp,hs,jd.t,by simp,by simp,h.ext x1,by simpa using hC⟩
 rintro d E A' ⟨md,e0,e3,hs',t',e4,hd,hJ,hcl⟩
 have eg:binOf .geq (.int .i64 ((d:Int) - 1)) (.int .i64 0)=some (.bool (decide (0<d))):=by
  rw[bin_geq]
  congr 2
  rw[decide_eq_decide]
  omega
 simp[e4,eg,-bin_geq]
 refine qeq (fun hc=>?_) (fun hc=>?_)
 ·simp at hc
  obtain⟨i,rfl⟩:∃ i,d=i+1:=⟨d - 1,by omega⟩
  have ei:(((i+1:Nat):Int) - 1)=(i:Int):=by omega
  rw[ei] at e4
  have hk:ks[i]?=some ks[i]:=List.getElem?_eq_getElem (by omega)
  have hkr':=hkr ks[i] (List.getElem_mem (by omega))
  rw[take_succ_of hk,List.reverse_append,List.reverse_cons,List.reverse_nil,List.nil_append,List.cons_append,List.nil_append] at hcl
  simp only[mendL] at hcl
  obtain⟨q,g1,g2⟩:=hs'.at_one (j:=i) (v:=.int .i64 ks[i]) (by rw[List.getElem?_map,hk];rfl) .i64
  generalize ks[i]=k at *
  have hA':=hA.mod md fun f hf=>hf.ne0
  obtain⟨st',rs',ps',h1',_⟩:=hJ.ex
  have hfs:=hJ.tp.ok.few_seg k
  simp only at hfs
  simp[e0,e3,e4,ei,g1,g2,qaq,allKnown]
  refine (frames_spec HX hA' hJ (k:=k) hkr').mono fun r1 C ⟨x2,v,qs,hr,hv,hqs,hvf,hqf⟩=>?_
  subst hr
  simp only at hqs
  have hvl:=hv.lenV1
  rw[hqs.length] at hvl
  have hJ2:=hJ.ext x2
  have hA2:=hA'.ext x2
  have mdC:=md.trans (Mod.of_ext x2)
  have hs2:=Sl.ext x2 hs'
  obtain⟨q',g1',g2'⟩:=hs2.at_one (j:=i) (v:=.int .i64 k) (by rw[List.getElem?_map,hk];rfl) .i64
  have hqq:q'=q:=by rw[g1] at g1';cases g1';rfl
  subst hqq
  have hJ2c:Cl C j [.ptr (some (p,0,0)),.int .i64 jd.seg,.int .i64 jd.cur,st',rs']:=h1'.ext x2
  have l0c:=hJ2c.ld 0 (v:=.ptr (some (p,0,0))) rfl
  have egl:binOf .gtr (.int .i64 ((bodies (t'.seg k).b).length:Int)) (.int .i64 0)=some (.bool (decide (bodies (t'.seg k).b≠[]))):=by
   rw[qfq]
   congr 2
   rw[decide_eq_decide]
   cases bodies (t'.seg k).b<;>simp
  simp[hvl,hv.known,egl,-qfq]
  by_cases hb:bodies (t'.seg k).b≠[]
  ·rw[if_pos hb] at hcl
   obtain⟨C1,w1,m1,hJ3⟩:=hJ2.setCur (c:=k) (by omega)
   have hJ3:JoC b K C1 j p m { jd with t:=t',cur:=k }:=hJ3
   have mdC1:=mdC.trans m1
   have hA3:=hA.mod mdC1 fun f hf=>hf.ne0
   have hs3:Sl C1 1 r (ks.map (AV.int .i64)):=hs2.mod m1 fun f hf hW=>hW.ne0 (hA.fresh f (hfr f hf))
   obtain⟨q3,g3,g4⟩:=hs3.at_one (j:=i) (v:=.int .i64 k) (by rw[List.getElem?_map,hk];rfl) .i64
   have hqq:q3=q':=by rw[g1] at g3;cases g3;rfl
   subst hqq
   obtain⟨st3,rs3,ps3,h3,_⟩:=hJ3.ex
   have l03:=h3.ld 0 (v:=.ptr (some (p,0,0))) rfl
   generalize hsp:span (bodies (t'.seg k).b)=n at *
   have hspos:0<n:=by
    cases hbb:bodies (t'.seg k).b with
    | nil=>exact absurd hbb hb
    | cons y ys=>rw[hbb] at hsp;simp only[span] at hsp;omega
   have hlen':t'.len k=(t'.seg k).b.length:=rfl
   simp[hb,e0,e3,e4,ei,g1,g2',AV.addr,l0c,w1]
   refine Wp.envI (fun E=>Env.at E 0=.ptr (some (j,0,0))∧Env.at E 3=r∧Env.at E 4=.int .i64 i∧Env.at E 6=.int .i64 n) (by simp[e0,e3,e4]) ?_
   rintro E2 ⟨f0,f3,f4,f6⟩
   refine Wp.draws ?_
   simp[f0,f3,f4,f6,g1,g4,AV.addr,l03,qiq,allKnown]
   refine (len_spec hJ3.tp).mono fun r2 C2 ⟨q1,q2⟩=>?_
   subst q1 q2
   simp[qoq,InAll,l03,g4,AV.beq,-qjq]
   refine qeq (fun hc2=>?_) (fun hc2=>?_)
   ·simp at hc2
    rw[if_pos (by rw[←hlen'];exact hc2)] at hcl
    simp only[Go.AM.wp_seq]
    refine Wp.envI (fun E=>Env.at E 0=.ptr (some (j,0,0))∧Env.at E 3=r∧Env.at E 4=.int .i64 i∧Env.at E 6=.int .i64 n) (by simp[f0,f3,f4,f6]) ?_
    rintro E3 ⟨f0,f3,f4,f6⟩
    refine Wp.draws ?_
    simp[f0,f3,f4,f6,g1,g4,AV.addr,l03,qiq,allKnown]
    refine (trim_spec HX hA3 hJ3.tp (k:=k) (n:=n) hspos (by rw[hlen'] at hc2;simp only;omega)).mono fun r3 C3 ⟨m5,t5,hr⟩=>?_
    subst hr
    have hJ5:=hJ3.tape m5 t5
    have md5:=mdC1.trans (m5.mono fun f _ hf=>h.tw f hf)
    have hs5:Sl C3 1 r (ks.map (AV.int .i64)):=hs3.mod m5 fun f hf hW=>(h.tw f hW).ne0 (hA.fresh f (hfr f hf))
    obtain⟨q5,g5,g6⟩:=hs5.at_one (j:=i) (v:=.int .i64 k) (by rw[List.getElem?_map,hk];rfl) .i64
    have hqq:q5=q3:=by rw[g1] at g5;cases g5;rfl
    subst hqq
    obtain⟨st5,rs5,ps5,h5,_⟩:=hJ5.ex
    have l05:=h5.ld 0 (v:=.ptr (some (p,0,0))) rfl
    simp[qiq,allKnown]
    refine on_spec.mono fun r4 C4 ⟨x6,hv4⟩=>?_
    have hkn:known r4=some r4:=by
     rcases hv4 with ⟨_,rfl⟩|⟨_,k,ty,u,_,rfl,_⟩<;>rfl
    have l06:=(h5.ext x6).ld 0 (v:=.ptr (some (p,0,0))) rfl
    simp[InAll,l03,l05,l06,g4,g6,AV.beq,hkn]
    rw[←hcl]
    exact⟨md5.trans (Mod.of_ext x6),hJ5.ext x6,hv4⟩
   ·simp at hc2
    rw[if_neg (by rw[←hlen'];omega)] at hcl
    simp
    rw[←hcl]
    exact⟨mdC1,hJ3,EV.nil _⟩
  ·rw[if_neg hb] at hcl
   have hbe:bodies (t'.seg k).b=[]:=by simpa using hb
   simp[hbe]
   refine Wp.envI (fun E=>Env.at E 0=.ptr (some (j,0,0))∧Env.at E 3=r∧Env.at E 4=.int .i64 i) (by simp[e0,e3,e4]) ?_
   rintro E2 ⟨f0,f3,f4⟩
   refine Wp.draws ?_
   simp[f0,f3,f4,g1,g2',AV.addr,l0c,qiq,allKnown]
   refine (drop_spec HX hA2 hJ2.tp (k:=k)).mono fun r3 C3 ⟨m5,t5,hr⟩=>?_
   subst hr
   have hJ5:=hJ2.tape m5 t5
   have md5:=mdC.trans (m5.mono fun f _ hf=>h.tw f hf)
   have hs5:Sl C3 1 r (ks.map (AV.int .i64)):=hs2.mod m5 fun f hf hW=>(h.tw f hW).ne0 (hA.fresh f (hfr f hf))
   obtain⟨q5,g5,g6⟩:=hs5.at_one (j:=i) (v:=.int .i64 k) (by rw[List.getElem?_map,hk];rfl) .i64
   have hqq:q5=q':=by rw[g1] at g5;cases g5;rfl
   subst hqq
   obtain⟨st5,rs5,ps5,h5,_⟩:=hJ5.ex
   have l05:=h5.ld 0 (v:=.ptr (some (p,0,0))) rfl
   simp[qiq,allKnown]
   refine on_spec.mono fun r4 C4 ⟨x6,hv4⟩=>?_
   have hkn:known r4=some r4:=by
    rcases hv4 with ⟨_,rfl⟩|⟨_,k,ty,u,_,rfl,_⟩<;>rfl
   have l06:=(h5.ext x6).ld 0 (v:=.ptr (some (p,0,0))) rfl
   have hJ6:=hJ5.ext x6
   have md6:=md5.trans (Mod.of_ext x6)
   rcases hv4 with ⟨h0,rfl⟩|⟨h0,n,ty,u,hk4,rfl,h2⟩
   ·rw[if_neg (by simp[h0])] at hcl
    have es':binOf .sub (.int .i64 (i:Int)) (.int .i64 1)=some (.int .i64 ((i:Int) - 1)):=by
     rw[qsq,IntKind.wrap_i64]
     congr 2
     omega
    simp[InAll,l0c,l05,l06,g2',g6,AV.beq,eqV,eqOf,f4,es',-qsq]
    exact⟨i,by omega,md6,f0,f3,Sl.ext x6 hs5,by omega,by omega,_,hJ6,hcl⟩
   ·rw[if_pos h0] at hcl
    simp[InAll,l0c,l05,l06,g2',g6,AV.beq,eqV,eqOf,f4]
    rw[←hcl]
    refine⟨md6,?_,h2.ev hk4⟩
    have e:({ jd with t:=(t'.drop k).2 }:JoD)={ jd with t:=(t'.drop k).2,cur:=-1 }:=by rw[←hcur]
    rw[←e]
    exact hJ6
 ·simp at hc
  subst hc
  simp only[List.take_zero,List.reverse_nil,mendL] at hcl
  rw[←hcl]
  simp
  have e:({ jd with t:=t' }:JoD)={ jd with t:=t',cur:=-1 }:=by rw[←hcur]
  rw[←e]
  exact⟨md,hJ,EV.nil _⟩
end
end Go.Proofs.YtlaoookdegmnnaaGreatDoor
namespace Go.AM

abbrev Bodies:=List (List UInt8)
theorem plainOf_append:∀ (a b:Bodies),plainOf (a++b)=plainOf a++plainOf b
 | [],_=>rfl
 | []::a,b=>by simp only[List.cons_append,plainOf,plainOf_append a b]
 | (c::r)::a,b=>by
  simp only[List.cons_append,plainOf,plainOf_append a b]
  split<;>rfl
theorem isSaved_append {a b:Bodies} (h:a≠[]):isSaved (a++b)=isSaved a:=by
 cases a with
 | nil=>exact absurd rfl h
 | cons x a=>cases x<;>rfl
theorem tailH_append {a b:Bodies} (h:a≠[]):tailH (a++b)=tailH a:=by
 cases a with
 | nil=>exact absurd rfl h
 | cons x a=>cases x<;>rfl
theorem content_more {r:List UInt8} {F:Bodies} (hF:F≠[]):∀ Ls:List Bodies,content (Ls++[F++[0::r]])=((content (Ls++[F])).1,(content (Ls++[F])).2++[r])
 | []=>by
  simp only[List.nil_append,content,List.any_nil,Bool.false_eq_true,if_false,isSaved_append hF,tailH_append hF,plainOf_append]
  simp[plainOf]
 | l::Ls=>by
  have ih:=content_more (r:=r) hF Ls
  simp only[List.cons_append,content]
  have e:(Ls++[F++[0::r]]).any isSaved=(Ls++[F]).any isSaved:=by simp[isSaved_append hF]
  rw[e]
  split
  ·exact ih
  ·simp[plainOf_append,plainOf]
theorem content_new {r:List UInt8}:∀ Ls:List Bodies,content (Ls++[[0::r]])=((content Ls).1,(content Ls).2++[r])
 | []=>by simp[content,isSaved,plainOf]
 | l::Ls=>by
  have ih:=content_new (r:=r) Ls
  simp only[List.cons_append,content]
  have e:(Ls++[[0::r]]).any isSaved=Ls.any isSaved:=by simp[isSaved]
  rw[e]
  split
  ·exact ih
  ·simp[plainOf]
theorem content_save {s:List UInt8}:∀ Ls:List Bodies,content (Ls++[[1::s]])=(s,[])
 | []=>by simp[content,isSaved,plainOf,tailH]
 | l::Ls=>by
  simp only[List.cons_append,content]
  rw[if_pos (by simp[isSaved])]
  exact content_save Ls

def Lasts (t:TpD) (C:List UInt8 × Bodies→Prop):Prop:=∀ keeps seg,16≤seg→seg≤1048576→∃ j,joOpen (t.crash keeps) seg=(0,some j)∧C (j.state,j.recs)
theorem Lasts.mono {t:TpD} {C C':List UInt8 × Bodies→Prop} (h:Lasts t C) (hc:∀ x,C x→C' x):Lasts t C':=fun keeps seg h1 h2=>let ⟨j,a,b⟩:=h keeps seg h1 h2;⟨j,a,hc _ b⟩
theorem lasts_full_t {t:TpD} {L:List (Int × Bodies)} (ht:t.segs=L.map fullS) (h:Segs L):Lasts t (fun x=>x=content (L.map (·.2))):=fun keeps seg h1 h2=>by
 obtain⟨j,q1,q2,_⟩:=open_full (seg:=seg) (crash_full ht h keeps) h (calm_crash t keeps) ⟨h1,h2⟩
 exact⟨j,q1,q2⟩
theorem lasts_more {t:TpD} {L:List (Int × Bodies)} {k:Int} {F:Bodies} {m:List UInt8} (ht:t.segs=L.map fullS++[(k,⟨fr F++frame m,(fr F).length⟩)]) (h:Segs L) (hk:∀ x∈L,x.1<k) (h0:0≤k∧k≤1048576) (hsm:∀ x∈F,x.length≤16384) (hm:m.length≤16384) :
  Lasts t (fun x=>x=content ((if F=[] then L else L++[(k,F)]).map (·.2))∨x=content ((L++[(k,F++[m])]).map (·.2))):=fun keeps seg h1 h2=>by
 obtain⟨t',L',q1,q2,q3,q4,q5⟩:=crash_more ht h hk h0 hsm hm keeps seg
 obtain⟨j,w1,w2,_⟩:=open_full (seg:=seg) q4 q3 q2 ⟨h1,h2⟩
 refine⟨j,by rw[q1,w1],?_⟩
 show (j.state,j.recs)=_∨(j.state,j.recs)=_
 rw[w2]
 rcases q5 with rfl|rfl
 ·exact .inl rfl
 ·exact .inr rfl

structure InvJ (j:JoD) (L:List (Int × Bodies)) (n:Nat):Prop where
 segs:j.t.segs=L.map fullS
 good:Segs L
 cur:(L=[]∧j.cur=-1)∨∃ L0 F,L=L0++[(j.cur,F)]
 top:∀ x∈L,x.1<n
 some:(j.state,j.recs)=content (L.map (·.2))
 down:j.t.down=false
theorem InvJ.lasts {j:JoD} {L:List (Int × Bodies)} {n:Nat} (h:InvJ j L n):Lasts j.t (fun x=>x=(j.state,j.recs)):=by
 rw[h.some]
 exact lasts_full_t h.segs h.good
theorem last_lt {L0:List (Int × Bodies)} {k:Int} {F:Bodies} (h:Segs (L0++[(k,F)])):∀ x∈L0,x.1<k:=fun x hx=>by
 have:=h.up
 rw[List.map_append,List.pairwise_append] at this
 exact this.2.2 x.1 (List.mem_map.2 ⟨x,hx,rfl⟩) k (by simp)
theorem Segs.left {L0 R:List (Int × Bodies)} (h:Segs (L0++R)):Segs L0:=by
 have:=h.up
 rw[List.map_append,List.pairwise_append] at this
 exact⟨this.1,fun x hx=>h.lo x (List.mem_append_left _ hx),fun x hx=>h.some x (List.mem_append_left _ hx),fun x hx=>h.small x (List.mem_append_left _ hx)⟩
theorem seg_last {t:TpD} {L0:List (Int × Bodies)} {k:Int} {s:SegD} (ht:t.segs=L0.map fullS++[(k,s)]) (hk:∀ x∈L0,x.1<k):t.seg k=s∧assoc k t.segs=some s:=by
 have hkn:k∉keysA (L0.map fullS):=by rw[keysA_full];exact not_mem_up hk
 have:assoc k t.segs=some s:=by rw[ht,assoc_append,assoc_none.2 hkn];simp[assoc]
 exact⟨by unfold TpD.seg;rw[this];rfl,this⟩
theorem put_last {L0:List (Int × Bodies)} {k:Int} {s s':SegD} (hk:∀ x∈L0,x.1<k):putA k s' (L0.map fullS++[(k,s)])=L0.map fullS++[(k,s')]:=
 putA_split (c:=[]) (by rw[keysA_full];exact not_mem_up hk)
theorem put_new {L:List (Int × Bodies)} {k:Int} {s':SegD} (hk:∀ x∈L,x.1<k):putA k s' (L.map fullS)=L.map fullS++[(k,s')]:=
 putA_new (by rw[keysA_full];exact not_mem_up hk)
theorem change_spec (t:TpD) (k:Int) (s:SegD):(∃ f,t.change k s=(0,{ t with segs:=putA k s t.segs,fuse:=f }))∨t.change k s=(8,{ t with down:=true }):=by
 unfold TpD.change TpD.spend
 by_cases h0:t.fuse=0
 ·rw[if_pos h0];exact .inr rfl
 ·rw[if_neg h0]
  by_cases h1:0<t.fuse
  ·rw[if_pos h1];exact .inl ⟨t.fuse - 1,rfl⟩
  ·rw[if_neg h1];exact .inl ⟨t.fuse,rfl⟩
theorem sync_full {t:TpD} {L0:List (Int × Bodies)} {k:Int} {F:Bodies} {n:Nat} (ht:t.segs=L0.map fullS++[(k,⟨fr F,n⟩)]) (hk:∀ x∈L0,x.1<k) (h0:0≤k∧k≤1048576) (hd:t.down=false) :
  (∃ f,t.sync k=(0,{ t with segs:=L0.map fullS++[(k,⟨fr F,(fr F).length⟩)],fuse:=f }))∨t.sync k=(8,{ t with down:=true }):=by
 obtain⟨h1,h2⟩:=seg_last ht hk
 unfold TpD.sync
 rw[there_in hd h0.1 h0.2 (by rw[h2];simp),if_neg (by simp),h1]
 rcases change_spec t k ⟨fr F,(fr F).length⟩ with ⟨f,h⟩|h
 ·rw[h,ht,put_last hk];exact .inl ⟨f,rfl⟩
 ·exact .inr h

def WroteP (j:JoD) (n:Nat) (C:List UInt8 × Bodies) (r:Int × JoD):Prop:=
 (r.1=0∧∃ L,InvJ r.2 L (n+1)∧(r.2.state,r.2.recs)=C∧r.2.seg=j.seg) ∨
 (r.1≠0∧r.2.t.down=false∧(∃ L,InvJ r.2 L (n+1))∧(r.2.state,r.2.recs)=(j.state,j.recs)∧r.2.seg=j.seg) ∨
 (r.1=8∧r.2.t.down=true∧Lasts r.2.t (fun x=>x=(j.state,j.recs)∨x=C))
theorem InvJ.up {j:JoD} {L:List (Int × Bodies)} {n m:Nat} (h:InvJ j L n) (hm:n≤m):InvJ j L m:=⟨h.segs,h.good,h.cur,fun x hx=>by have:=h.top x hx;omega,h.some,h.down⟩
theorem lasts_down {t t':TpD} {C:List UInt8 × Bodies→Prop} (h:Lasts t C) (hs:t'.segs=t.segs) (hr:t'.room=t.room):Lasts t' C:=fun keeps seg h1 h2=>by
 have e:t'.crash keeps=t.crash keeps:=by
  unfold TpD.crash
  have hk:t'.keys=t.keys:=by unfold TpD.keys;rw[hs]
  have:∀ ks l,crashL t' ks l=crashL t ks l:=fun ks=>by
   induction ks with
   | nil=>intro l;rfl
   | cons k ks ih=>
    intro l
    have hg:t'.seg k=t.seg k:=by unfold TpD.seg;rw[hs]
    simp only[crashL,hg,ih]
  rw[hk,hr,this]
 rw[e]
 exact h keeps seg h1 h2
theorem there_some {t:TpD} {k:Int} (hd:t.down=false) (h0:0≤k) (h1:k≤1048576):t.there k true=0:=by
 unfold TpD.there
 rw[if_neg (by omega),hd,if_neg (by simp),if_neg (by simp)]
theorem fits_cases (t:TpD) (k:Int) (p:List (List UInt8)):t.fits k p=0∨t.fits k p=5:=by
 unfold TpD.fits
 split
 ·exact .inr rfl
 ·split
  ·exact .inr rfl
  ·exact .inl rfl
theorem write_at {j:JoD} {t:TpD} {L0:List (Int × Bodies)} {k:Int} {F:Bodies} {m:List UInt8} {n:Nat} {C0 C:List UInt8 × Bodies} (hL0:Segs L0) (hk:∀ x∈L0,x.1<k) (h0:0≤k∧k≤1048576) (hd:t.down=false)
  (ht:t.segs=(if F=[] then L0 else L0++[(k,F)]).map fullS) (hF:∀ x∈F,x.length≤16384) (hm:m.length≤16384)
  (hC0:C0=content ((if F=[] then L0 else L0++[(k,F)]).map (·.2))) (hC:C=content ((L0++[(k,F++[m])]).map (·.2))) :
  (∃ e t',t.append k [frame m]=(e,t')∧e≠0∧t'.segs=t.segs∧t'.room=t.room∧((e=5∧t'.down=false)∨(e=8∧t'.down=true))) ∨
  (∃ t1,t.append k [frame m]=(0,t1)∧t1.down=false∧((∃ t2,t1.sync k=(8,t2)∧t2.down=true∧Lasts t2 (fun x=>x=C0∨x=C)) ∨
   ∃ t2,t1.sync k=(0,t2)∧t2.down=false∧t2.segs=(L0++[(k,F++[m])]).map fullS)):=by
 have hsb:(t.seg k).b=fr F∧(t.seg k).syn=(fr F).length:=by
  by_cases hF0:F=[]
  ·rw[if_pos hF0] at ht
   have:assoc k t.segs=none:=by rw[ht,assoc_none,keysA_full];exact not_mem_up hk
   unfold TpD.seg
   rw[this,hF0]
   exact⟨rfl,rfl⟩
  ·rw[if_neg hF0,List.map_append] at ht
   have:=(seg_last (s:=⟨fr F,(fr F).length⟩) ht hk).1
   rw[this]
   exact⟨rfl,rfl⟩
 have hput:putA k ⟨fr F++frame m,(fr F).length⟩ t.segs=L0.map fullS++[(k,⟨fr F++frame m,(fr F).length⟩)]:=by
  by_cases hF0:F=[]
  ·rw[if_pos hF0] at ht;rw[ht,put_new hk]
  ·rw[if_neg hF0,List.map_append] at ht;rw[ht];exact put_last hk
 unfold TpD.append
 rw[there_some hd h0.1 h0.2,if_neg (by simp)]
 rcases fits_cases t k [frame m] with hf|hf
 ·rw[hf,if_neg (by simp)]
  simp only[List.flatten_cons,List.flatten_nil,List.append_nil,hsb.1,hsb.2]
  rcases change_spec t k ⟨fr F++frame m,(fr F).length⟩ with ⟨f,h⟩|h
  ·right
   rw[h,hput]
   refine⟨_,rfl,hd,?_⟩
   have hfr:fr F++frame m=fr (F++[m]):=by rw[fr_append];simp[fr]
   have hts:({ t with segs:=L0.map fullS++[(k,⟨fr F++frame m,(fr F).length⟩)],fuse:=f }:TpD).segs=L0.map fullS++[(k,⟨fr (F++[m]),(fr F).length⟩)]:=by rw[←hfr]
   rcases sync_full (t:={ t with segs:=L0.map fullS++[(k,⟨fr F++frame m,(fr F).length⟩)],fuse:=f }) hts hk h0 hd with ⟨f',h'⟩|h'
   ·right
    refine⟨_,h',hd,?_⟩
    simp only[List.map_append]
    rfl
   ·left
    refine⟨_,h',rfl,?_⟩
    have:=lasts_more (t:={ t with segs:=L0.map fullS++[(k,⟨fr F++frame m,(fr F).length⟩)],fuse:=f }) rfl hL0 hk h0 hF hm
    rw[←hC0,←hC] at this
    exact lasts_down this rfl rfl
  ·left
   rw[h]
   exact⟨8,_,rfl,by decide,rfl,rfl,.inr ⟨rfl,rfl⟩⟩
 ·left
  rw[hf,if_pos (by decide)]
  exact⟨5,t,rfl,by decide,rfl,rfl,.inl ⟨rfl,hd⟩⟩
theorem rawOf_one {r:List UInt8} (h:r.length≤16383):rawOf [r]=some (frame (0::r)):=by
 simp only[rawOf]
 rw[if_neg (by omega)]
 simp
theorem write_spec {j:JoD} {L:List (Int × Bodies)} {n:Nat} (h:InvJ j L n) (hn:n<1000000) {r:List UInt8} (hr:r.length≤16383):WroteP j n (j.state,j.recs++[r]) (j.write [r]):=by
 have hsome:=h.some
 have hm:(0::r:List UInt8).length≤16384:=by simp;omega
 have fin:∀ (L0:List (Int × Bodies)) (k:Int) (F:Bodies) (t:TpD),Segs L0→(∀ x∈L0,x.1<k)→0≤k→k≤n→t.down=false→t.segs=(if F=[] then L0 else L0++[(k,F)]).map fullS→(∀ x∈F,x.length≤16384) →
   (if F=[] then L0 else L0++[(k,F)])=L→j.roll (frame (0::r)).length=(k,0,t)→WroteP j n (j.state,j.recs++[r]) (j.write [r]):=by
  intro L0 k F t hL0 hk hk0 hkn hd ht hF hLL hroll
  have hC:(j.state,j.recs++[r])=content ((L0++[(k,F++[0::r])]).map (·.2)):=by
   have e:(j.state,j.recs++[r])=((content (L.map (·.2))).1,(content (L.map (·.2))).2++[r]):=by rw[←hsome]
   rw[e,←hLL,List.map_append]
   by_cases hF0:F=[]
   ·rw[if_pos hF0,hF0];exact (content_new _).symm
   ·rw[if_neg hF0,List.map_append];exact (content_more hF0 _).symm
  have hw:=write_at (j:=j) (t:=t) (n:=n) (m:=0::r) (C0:=(j.state,j.recs)) hL0 hk ⟨hk0,by omega⟩ hd ht hF hm (by rw[hLL];exact hsome) hC
  have hadd:j.add [r]=(if (t.append k [frame (0::r)]).1≠0 then ((t.append k [frame (0::r)]).1,{ j with t:=(t.append k [frame (0::r)]).2 }) else (0,{ j with t:=(t.append k [frame (0::r)]).2,cur:=k,recs:=j.recs++[r] })):=by
   unfold JoD.add
   rw[if_neg (by simp),rawOf_one hr]
   simp only[hroll]
   rw[if_neg (by simp)]
  unfold JoD.write
  rcases hw with ⟨e,t',h1,h2,h3,h4,h5⟩|⟨t1,h1,h2,h3⟩
  ·rw[h1] at hadd
   simp only[if_pos h2] at hadd
   rw[hadd]
   simp only[if_pos h2]
   have hinv:∀ (hd':t'.down=false),InvJ { j with t:=t' } L (n+1):=fun hd'=>⟨by show t'.segs=_;rw[h3,ht,hLL],h.good,h.cur,fun x hx=>by have:=h.top x hx;omega,h.some,hd'⟩
   rcases h5 with ⟨rfl,h6⟩|⟨rfl,h6⟩
   ·exact .inr (.inl ⟨(show (5:Int)≠0 by decide),h6,⟨L,hinv h6⟩,rfl,rfl⟩)
   ·refine .inr (.inr ⟨rfl,h6,?_⟩)
    have hl:=lasts_full_t (t:=t') (L:=L) (by rw[h3,ht,hLL]) h.good
    exact hl.mono fun x hx=>.inl (by rw[hx,←hsome])
  ·rw[h1] at hadd
   simp only[ne_eq,not_true,if_false] at hadd
   rw[hadd]
   simp only[ne_eq,not_true,if_false]
   unfold JoD.sync
   simp only
   rw[if_neg (by omega)]
   rcases h3 with ⟨t2,g1,g2,g3⟩|⟨t2,g1,g2,g3⟩
   ·rw[g1]
    exact .inr (.inr ⟨rfl,g2,g3⟩)
   ·rw[g1]
    refine .inl ⟨rfl,L0++[(k,F++[0::r])],⟨g3,hL0.snoc hk ⟨hk0,by omega⟩ (by simp) (fun x hx=>?_),.inr ⟨L0,F++[0::r],rfl⟩,fun x hx=>?_,hC,g2⟩,rfl,rfl⟩
    ·rcases List.mem_append.1 hx with hx|hx
     ·exact hF x hx
     ·rw[List.mem_singleton] at hx;subst hx;exact hm
    ·rcases List.mem_append.1 hx with hx|hx
     ·have:=hk x hx;omega
     ·rw[List.mem_singleton] at hx;subst hx;simp only;omega
 rcases h.cur with ⟨hL,hcur⟩|⟨L0,F,hL⟩
 ·refine fin [] 0 [] j.t ⟨by simp,by simp,by simp,by simp⟩ (by simp) (by omega) (by omega) h.down (by simpa[hL] using h.segs) (by simp) (by simp[hL]) ?_
  unfold JoD.roll
  rw[hcur,if_pos (by decide)]
 ·have hg:=h.good
  rw[hL] at hg
  have hk:=last_lt hg
  have hin:=hg.lo (j.cur,F) (by simp)
  have hFn:=hg.some (j.cur,F) (by simp)
  have hFs:=hg.small (j.cur,F) (by simp)
  have htop:j.cur<n:=h.top (j.cur,F) (by rw[hL];simp)
  simp only at hin hFn hFs
  have hts:j.t.segs=L0.map fullS++[(j.cur,⟨fr F,(fr F).length⟩)]:=by rw[h.segs,hL,List.map_append];rfl
  have hlen:j.t.len j.cur=(fr F).length:=by unfold TpD.len;rw[(seg_last hts hk).1]
  by_cases hfit:(fr F).length=0∨((frame (0::r)).length:Int)≤j.seg - (fr F).length
  ·refine fin L0 j.cur F j.t hg.left hk hin.1 (by omega) h.down (by rw[if_neg hFn,←hL];exact h.segs) hFs (by rw[if_neg hFn,hL]) ?_
   unfold JoD.roll
   rw[if_neg (by omega),hlen,if_pos hfit]
  ·have hroll:j.roll (frame (0::r)).length=(j.cur+1,j.t.sync j.cur):=by
    unfold JoD.roll
    rw[if_neg (by omega),hlen,if_neg hfit]
   rcases sync_full hts hk ⟨hin.1,hin.2⟩ h.down with ⟨f,hs⟩|hs
   ·rw[hs] at hroll
    have hsg:({ j.t with segs:=L0.map fullS++[(j.cur,⟨fr F,(fr F).length⟩)],fuse:=f }:TpD).segs=L.map fullS:=by
     show L0.map fullS++_=_
     rw[hL,List.map_append];rfl
    refine fin L (j.cur+1) [] { j.t with segs:=L0.map fullS++[(j.cur,⟨fr F,(fr F).length⟩)],fuse:=f } h.good (fun x hx=>?_) (by omega) (by omega) h.down (by rw[if_pos rfl];exact hsg) (by simp) (by rw[if_pos rfl]) hroll
    rw[hL] at hx
    rcases List.mem_append.1 hx with hx|hx
    ·have:=hk x hx;omega
    ·rw[List.mem_singleton] at hx;subst hx;simp only;omega
   ·rw[hs] at hroll
    have hadd:j.add [r]=(8,{ j with t:={ j.t with down:=true } }):=by
     unfold JoD.add
     rw[if_neg (by simp),rawOf_one hr]
     simp only[hroll]
     rw[if_pos (show (8:Int)≠0 by decide)]
    unfold JoD.write
    rw[hadd,if_pos (show (8:Int)≠0 by decide)]
    refine .inr (.inr ⟨rfl,rfl,?_⟩)
    exact (lasts_down (t':={ j.t with down:=true }) h.lasts rfl rfl).mono fun x hx=>Or.inl hx

theorem drop_full {t:TpD} {x:Int × Bodies} {L:List (Int × Bodies)} (ht:t.segs=(x::L).map fullS) (h:Segs (x::L)) (hd:t.down=false) :
  (∃ f,t.drop x.1=(0,{ t with segs:=L.map fullS,fuse:=f }))∨t.drop x.1=(8,{ t with down:=true }):=by
 have hin:=h.lo x (by simp)
 have hk:assoc x.1 t.segs≠none:=by rw[ht,assoc_full h.up (List.mem_cons_self ..)];simp
 unfold TpD.drop
 rw[there_in hd hin.1 hin.2 hk,if_neg (by simp)]
 unfold TpD.spend
 by_cases h0:t.fuse=0
 ·rw[if_pos h0];exact .inr rfl
 ·rw[if_neg h0]
  by_cases h1:0<t.fuse
  ·rw[if_pos h1];left;refine⟨t.fuse - 1,?_⟩;simp only[ht,delA_head]
  ·rw[if_neg h1];left;refine⟨t.fuse,?_⟩;simp only[ht,delA_head]
theorem clear_spec {k:Int} {s:List UInt8}:∀ {A:List (Int × Bodies)} {t:TpD},t.segs=(A++[(k,[1::s])]).map fullS→Segs (A++[(k,[1::s])])→t.down=false →
  (∃ t',clearL k (A.map (·.1)++[k]) t=(0,t')∧t'.segs=[(k,[1::s])].map fullS∧t'.down=false) ∨
  (∃ t',clearL k (A.map (·.1)++[k]) t=(8,t')∧t'.down=true∧Lasts t' (fun x=>x=(s,[])))
 | [],t,ht,hS,hd=>by
  left
  refine⟨t,?_,ht,hd⟩
  simp only[List.map_nil,List.nil_append,clearL]
  rw[if_neg (by omega)]
 | x::A,t,ht,hS,hd=>by
  have hx:x.1<k:=last_lt hS x (by simp)
  simp only[List.map_cons,List.cons_append,clearL]
  rw[if_pos hx]
  rcases drop_full (x:=x) (L:=A++[(k,[1::s])]) ht hS hd with ⟨f,h⟩|h
  ·rw[h,if_neg (by simp)]
   exact clear_spec (A:=A) (t:={ t with segs:=(A++[(k,[1::s])]).map fullS,fuse:=f }) rfl hS.tail hd
  ·right
   rw[h,if_pos (show (8:Int)≠0 by decide)]
   refine⟨_,rfl,rfl,?_⟩
   have hl:=lasts_full_t ht hS
   have:content ((x::A++[(k,[1::s])]).map (·.2))=(s,[]):=by
    rw[List.map_append]
    exact content_save _
   rw[this] at hl
   exact lasts_down hl rfl rfl
theorem sync_inv {j:JoD} {L:List (Int × Bodies)} {n:Nat} (h:InvJ j L n):(∃ f,j.sync=(0,{ j with t:={ j.t with fuse:=f } }))∨j.sync=(8,{ j with t:={ j.t with down:=true } }):=by
 unfold JoD.sync
 rcases h.cur with ⟨hL,hcur⟩|⟨L0,F,hL⟩
 ·rw[if_pos (by omega)];exact .inl ⟨j.t.fuse,rfl⟩
 ·have hg:=h.good
  rw[hL] at hg
  have hk:=last_lt hg
  have hin:=hg.lo (j.cur,F) (by simp)
  simp only at hin
  have hts:j.t.segs=L0.map fullS++[(j.cur,⟨fr F,(fr F).length⟩)]:=by rw[h.segs,hL,List.map_append];rfl
  rw[if_neg (by omega)]
  rcases sync_full hts hk ⟨hin.1,hin.2⟩ h.down with ⟨f,hs⟩|hs
  ·rw[hs];left;exact⟨f,by rw[←hts]⟩
  ·rw[hs];exact .inr rfl
theorem save_spec {j:JoD} {L:List (Int × Bodies)} {n:Nat} (h:InvJ j L n) (hn:n<1000000) {s:List UInt8} (hs:s.length≤16383):WroteP j n (s,[]) (j.save s):=by
 have hm:(1::s:List UInt8).length≤16384:=by simp;omega
 have hkk:(∀ x∈L,x.1<j.cur+1)∧0≤j.cur+1∧j.cur+1≤n:=by
  rcases h.cur with ⟨hL,hcur⟩|⟨L0,F,hL⟩
  ·rw[hL,hcur];exact⟨by simp,by omega,by omega⟩
  ·have hg:=h.good
   rw[hL] at hg
   have hk:=last_lt hg
   have hin:=hg.lo (j.cur,F) (by simp)
   have htop:j.cur<n:=h.top (j.cur,F) (by rw[hL];simp)
   simp only at hin
   refine⟨fun x hx=>?_,by omega,by omega⟩
   rw[hL] at hx
   rcases List.mem_append.1 hx with hx|hx
   ·have:=hk x hx;omega
   ·rw[List.mem_singleton] at hx;subst hx;simp only;omega
 obtain⟨hk,hk0,hkn⟩:=hkk
 unfold JoD.save
 rw[if_neg (by omega)]
 rcases sync_inv h with ⟨f,hy⟩|hy
 ·rw[hy]
  simp only[ne_eq,not_true,if_false]
  have hw:=write_at (j:=j) (t:={ j.t with fuse:=f }) (n:=n) (L0:=L) (k:=j.cur+1) (F:=[]) (m:=1::s) (C0:=(j.state,j.recs)) (C:=(s,[])) h.good hk ⟨hk0,by omega⟩ h.down (by rw[if_pos rfl];exact h.segs) (by simp) hm (by rw[if_pos rfl];exact h.some) (by rw[List.map_append];exact (content_save _).symm)
  rcases hw with ⟨e,t',h1,h2,h3,h4,h5⟩|⟨t1,h1,h2,h3⟩
  ·rw[h1]
   simp only[if_pos h2]
   have hinv:∀ (hd':t'.down=false),InvJ { j with t:=t' } L (n+1):=fun hd'=>⟨by show t'.segs=_;rw[h3];exact h.segs,h.good,h.cur,fun x hx=>by have:=h.top x hx;omega,h.some,hd'⟩
   rcases h5 with ⟨rfl,h6⟩|⟨rfl,h6⟩
   ·exact .inr (.inl ⟨(show (5:Int)≠0 by decide),h6,⟨L,hinv h6⟩,rfl,rfl⟩)
   ·refine .inr (.inr ⟨rfl,h6,?_⟩)
    have hl:=lasts_full_t (t:=t') (L:=L) (by rw[h3];exact h.segs) h.good
    exact hl.mono fun x hx=>.inl (by rw[hx,←h.some])
  ·rw[h1]
   simp only[ne_eq,not_true,if_false]
   rcases h3 with ⟨t2,g1,g2,g3⟩|⟨t2,g1,g2,g3⟩
   ·rw[g1]
    simp only[if_pos (show ¬(8:Int)=0 by decide)]
    have hdr:t2.drop (j.cur+1)=(8,t2):=by
     have hth:t2.there (j.cur+1) false=8:=by unfold TpD.there;rw[if_neg (by omega),if_pos g2]
     unfold TpD.drop
     rw[hth,if_pos (show (8:Int)≠0 by decide)]
    rw[hdr]
    exact .inr (.inr ⟨rfl,g2,g3⟩)
   ·rw[g1]
    simp only[List.nil_append] at g3
    have hS:Segs (L++[(j.cur+1,[1::s])]):=h.good.snoc hk ⟨hk0,by omega⟩ (by simp) (fun x hx=>by rw[List.mem_singleton] at hx;subst hx;exact hm)
    have hkeys:t2.keys=L.map (·.1)++[j.cur+1]:=by rw[keys_full g3 hS,List.map_append];rfl
    simp only[not_true,if_false,hkeys]
    rcases clear_spec g3 hS g2 with ⟨t3,q1,q2,q3⟩|⟨t3,q1,q2,q3⟩
    ·rw[q1]
     refine .inl ⟨rfl,[(j.cur+1,[1::s])],⟨q2,⟨by simp,?_,?_,?_⟩,.inr ⟨[],[1::s],rfl⟩,?_,?_,q3⟩,rfl,rfl⟩
     ·intro x hx;rw[List.mem_singleton] at hx;subst hx;exact⟨hk0,by simp only;omega⟩
     ·intro x hx;rw[List.mem_singleton] at hx;subst hx;simp
     ·intro x hx m hmm;rw[List.mem_singleton] at hx;subst hx;rw[List.mem_singleton] at hmm;subst hmm;exact hm
     ·intro x hx;rw[List.mem_singleton] at hx;subst hx;simp only;omega
     ·exact (content_save []).symm
    ·rw[q1]
     exact .inr (.inr ⟨rfl,q2,q3.mono fun x hx=>.inr hx⟩)
 ·rw[hy]
  simp only[if_pos (show (8:Int)≠0 by decide)]
  exact .inr (.inr ⟨rfl,rfl,(lasts_down (t':={ j.t with down:=true }) h.lasts rfl rfl).mono fun x hx=>Or.inl hx⟩)
end Go.AM
namespace Go.Proofs.YtlaoookdegmnnaaGreatDoor
open Go.AM
theorem allN_len:∀ (n:Nat) (l:List UInt8),(allN n l).length≤n
 | 0,l=>by simp[allN]
 | n+1,l=>by
  unfold allN
  split
  ·simp only[List.length_cons]
   have:=allN_len n
   exact Nat.succ_le_succ (this _)
  ·simp
theorem bodies_len (l:List UInt8):(bodies l).length≤l.length:=allN_len _ _
theorem allN_mem:∀ (n:Nat) {l w:List UInt8},w∈allN n l→w.length≤16384
 | 0,l,w,h=>by simp[allN] at h
 | n+1,l,w,h=>by
  unfold allN at h
  split at h
  ·rename_i m hm
   rcases List.mem_cons.1 h with rfl|h
   ·exact (peel_len hm).2
   ·exact allN_mem n h
  ·cases h
theorem plain_len:∀ l:List (List UInt8),(plainOf l).length≤l.length
 | []=>Nat.le_refl _
 | []::l=>by have:=plain_len l;simp[plainOf];omega
 | (c::r)::l=>by
  have:=plain_len l
  simp only[plainOf]
  split
  ·simp;exact this
  ·simp;omega
theorem JoC.setState {b:Nat} {K:Nat→Nat} {A:St} {j p m:Nat} {jd:JoD} (h:JoC b K A j p m jd) {st:AV} {l:List UInt8} (hst:Bs A st l) (hro:RoS K st) (hl:l.length<2^40) :
  ∃ B,storeV A 1 (.ptr (some (j,0,3))) st=some (.bot,B)∧Mod (JW b K) A B∧JoC b K B j p m { jd with state:=l }:=by
 obtain⟨s0,rs,ps,h1,h2,h3,h4,h5,h6,h7⟩:=h.ex
 obtain⟨b1,b2⟩:=h1.st 3 (by simp) (v:=st) (Sl.flat hst) (Sl.cells hst) (Sl.notBot hst)
 simp at b1 b2
 have hk:=h.kj
 have mC:Mod (fun f=>f=j) A (A.put j (.cells [.ptr (some (p,0,0)),.int .i64 jd.seg,.int .i64 jd.cur,st,rs] [⟨0,0,5,1⟩] 1 false)):=mod_put A j _ rfl
 exact⟨_,b1,mC.mono fun f _ hf=>by subst hf;exact .inr hk,h.tp.mod mC fun f hf=>by subst hf;omega,⟨st,rs,ps,b2,Sl.mod hst mC (fun f hf hW=>by subst hW;have:=hro _ hf;omega),hro,Own_mod h4 mC (fun f hf hW=>(h7 f hf).2 hW),PartsB.mod mC h5 (fun v hv f hf hW=>by subst hW;have:=h6 v hv _ hf;omega),h6,h7⟩,hk,⟨h.ok.cur,h.ok.seg,hl,h.ok.recs⟩⟩
section
variable {D:Disp} {G0:Env} {X:Calls'} {A0:St}
theorem load_spec (HX:RowsX X A0) {b:Nat} {K:Nat→Nat} {A:St} (hA:Wld K A0 A) {j p m:Nat} {jd:JoD} (h:JoC b K A j p m jd) (hn:jd.recs.length<2^30) :
  Ev D G0 fnsL X 165 [.ptr (some (j,0,0))] A fun r B=>∃ K',KUp K K' A∧Wld K' A0 B∧Mod (JW b K) A B∧JoC b K' B j p m (loadL (firstL jd.t 0 jd.t.keys 0) 0 jd.t.keys jd).2∧EV B r (loadL (firstL jd.t 0 jd.t.keys 0) 0 jd.t.keys jd).1:=by
 refine Ev.fnK (fn:=a165) rfl ⟨by simp[a165],by decide⟩ ?_
 unfold a165
 obtain⟨st,rs,ps,h1,_⟩:=h.ex
 have l0:=h1.ld 0 (v:=.ptr (some (p,0,0))) rfl
 simp[AV.addr,l0,qaq,allKnown]
 refine (segs_spec HX hA.glob h.tp).mono fun r B ⟨x1,hs,hfr⟩=>?_
 have hlen:=hs.lenV1
 simp at hlen
 have hkf:=keys_few h.tp.ok
 have hkr:∀ k∈jd.t.keys,0≤k∧k≤1048576:=fun k hk=>key_range h.tp.ok hk
 have hrr:RoS K r:=fun f hf=>hA.fresh f (hfr f hf)
 simp[hlen,hs.known]
 generalize hks:jd.t.keys=ks at *
 generalize hF:firstL jd.t 0 ks 0=F at *
 generalize hC:loadL F 0 ks jd=CC at *
 refine Wp.loopK (fun d E A'=>A.Ext A'∧Env.at E 0=.ptr (some (j,0,0))∧Env.at E 3=r∧Env.at E 21=r∧Env.at E 22=.int .i64 ks.length∧Sl A' 1 r (ks.map (AV.int .i64))∧∃ (i f:Nat),Env.at E 23=.int .i64 i∧i+d=ks.length∧Env.at E 4=.int .i64 f∧firstL jd.t i (ks.drop i) f=F) ks.length ?_ ?_
 ·exact⟨x1,by simp,by simp,by simp,by simp,hs,0,0,by simp,by simp,by simp,by simpa using hF⟩
 rintro d E A' ⟨x,e0,e3,e21,e22,hs',i,f,e23,hi,e4,hfl⟩
 simp[e22,e23,qoq,-qjq]
 refine qeq (fun hc=>?_) (fun hc=>?_)
 ·simp at hc
  have hk:ks[i]?=some ks[i]:=List.getElem?_eq_getElem hc
  have hkr':=hkr ks[i] (List.getElem_mem hc)
  have hdr:ks.drop i=ks[i]::ks.drop (i+1):=List.drop_eq_getElem_cons hc
  rw[hdr] at hfl
  simp only[firstL] at hfl
  obtain⟨q,g1,g2⟩:=hs'.at_one (j:=i) (v:=.int .i64 ks[i]) (by rw[List.getElem?_map,hk];rfl) .i64
  generalize ks[i]=k at *
  have hA':=hA.ext x
  have hJ:=h.ext x
  have ea:=add_one (i:=i) (by omega)
  simp[-qbq] at ea
  simp[e0,e21,e22,e23,g1,g2,qaq,allKnown]
  refine (frames_spec HX hA' hJ (k:=k) hkr').mono fun r1 C ⟨x2,v,qs,hr,hv,hqs,_,_⟩=>?_
  subst hr
  simp[hv.known,qaq,allKnown,hv.allKnown]
  refine (saved_spec hv hqs).mono fun r2 C2 ⟨q1,q2⟩=>?_
  subst q1 q2
  simp
  have hsC:=Sl.ext x2 hs'
  have xC:=x.trans x2
  refine qeq (fun hc2=>?_) (fun hc2=>?_)
  ·rw[if_pos hc2] at hfl
   simp[e0,e3,e21,e22,e23,ea,-qbq]
   exact⟨d - 1,by omega,xC,hsC,i+1,by omega,by omega,i,rfl,hfl⟩
  ·rw[if_neg (by simp[hc2])] at hfl
   simp[e0,e3,e21,e22,e23,ea,-qbq]
   exact⟨d - 1,by omega,xC,hsC,i+1,by omega,by omega,f,e4,hfl⟩
 ·simp at hc
  have hil:i=ks.length:=by omega
  rw[hil,List.drop_length] at hfl
  simp only[firstL] at hfl
  subst hfl
  have hlen2:=hs'.lenV1
  simp at hlen2
  simp[e3,hlen2,hs'.known]
  refine Wp.loopK (fun d E A2=>∃ K',KUp K K' A∧Wld K' A0 A2∧Mod (JW b K) A A2∧Sl A2 1 r (ks.map (AV.int .i64))∧RoS K' r∧Env.at E 0=.ptr (some (j,0,0))∧Env.at E 4=.int .i64 f∧Env.at E 38=r∧Env.at E 39=.int .i64 ks.length∧∃ (i:Nat) (j':JoD),Env.at E 40=.int .i64 i∧i+d=ks.length∧JoC b K' A2 j p m j'∧loadL f i (ks.drop i) j'=CC∧j'.recs.length≤jd.recs.length+i*1048576) ks.length ?_ ?_
  ·exact⟨K,KUp.refl K A,hA.ext x,Mod.of_ext x,hs',hrr,by simp[e0],by simp[e4],by simp,by simp,0,jd,by simp,by simp,h.ext x,by simpa using hC,by omega⟩
  rintro d2 E2 A2 ⟨K2,u2,hW2,md2,hs2,hr2,f0,f4,f38,f39,i2,j2,f40,hi2,hJ2,hL2,hn2⟩
  simp[f39,f40,qoq,-qjq]
  refine qeq (fun hc=>?_) (fun hc=>?_)
  ·simp at hc
   have hk:ks[i2]?=some ks[i2]:=List.getElem?_eq_getElem hc
   have hkr':=hkr ks[i2] (List.getElem_mem hc)
   have hdr:ks.drop i2=ks[i2]::ks.drop (i2+1):=List.drop_eq_getElem_cons hc
   rw[hdr] at hL2
   simp only[loadL] at hL2
   obtain⟨q,g1,g2⟩:=hs2.at_one (j:=i2) (v:=.int .i64 ks[i2]) (by rw[List.getElem?_map,hk];rfl) .i64
   generalize ks[i2]=k at *
   obtain⟨st',rs',ps',h1',_⟩:=hJ2.ex
   have l0':=h1'.ld 0 (v:=.ptr (some (p,0,0))) rfl
   have ea:=add_one (i:=i2) (by omega)
   simp[-qbq] at ea
   have el:=qoq .i64 i2 f
   by_cases hlt:i2<f
   ·rw[if_pos hlt] at hL2
    simp[f0,f4,f38,f40,g1,g2,el,hlt,AV.addr,l0',qaq,allKnown,-qjq]
    refine (drop_spec HX hW2 hJ2.tp (k:=k)).mono fun r3 C3 ⟨m5,t5,hr⟩=>?_
    subst hr
    have hJ5:=hJ2.tape m5 t5
    have m5':Mod (JW b K2) A2 C3:=m5.mono fun f _ hf=>hJ2.tw f hf
    have md5:=JW_new u2 md2 m5'
    simp[qaq,allKnown]
    refine on_spec.mono fun r4 C4 ⟨x6,hv4⟩=>?_
    have hW6:=(hW2.mod m5' fun f hf=>hf.ne0).ext x6
    have hs6:=Sl.ext x6 (hs2.mod m5' fun f hf hW=>hW.ne0 (hr2 f hf))
    rcases hv4 with ⟨h0,rfl⟩|⟨h0,n,ty,u,hk4,rfl,h2⟩
    ·rw[if_neg (by simp[h0])] at hL2
     simp[eqV,eqOf,f0,f4,f38,f39,f40,ea,-qbq]
     exact⟨d2 - 1,by omega,K2,u2,hW6,md5.trans (Mod.of_ext x6),hs6,hr2,i2+1,by omega,by omega,_,hJ5.ext x6,hL2,Nat.le_trans hn2 (Nat.add_le_add_left (Nat.mul_le_mul_right _ (Nat.le_succ _)) _)⟩
    ·rw[if_pos h0] at hL2
     simp[eqV,eqOf]
     rw[←hL2]
     exact⟨K2,u2,hW6,md5.trans (Mod.of_ext x6),hJ5.ext x6,h2.ev hk4⟩
   ·rw[if_neg hlt] at hL2
    simp[f0,f4,f38,f40,g1,g2,el,hlt,qaq,allKnown,-qjq]
    refine (frames_spec HX hW2 hJ2 (k:=k) hkr').mono fun r3 C ⟨x2,v,qs,hr,hv,hqs,hvf,hqf⟩=>?_
    subst hr
    have eq:=eql_nat .i64 i2 f
    have hW3:=hW2.ext x2
    have hJ3:=hJ2.ext x2
    have hs3:=Sl.ext x2 hs2
    have md3:=md2.trans (Mod.of_ext x2)
    have hrv:RoS K2 v:=fun f hf=>hW2.fresh f (hvf f hf)
    have hrq:∀ w∈qs,RoS K2 w:=fun w hw f hf=>hW2.fresh f (hqf w hw f hf)
    generalize hls:bodies (j2.t.seg k).b=ls at *
    have hlsn:ls.length≤1048576:=by
     rw[←hls]
     exact Nat.le_trans (bodies_len _) (hJ2.tp.ok.few_seg k).1
    have hlsl:∀ w∈ls,w.length≤16384:=fun w hw=>by
     rw[←hls] at hw
     exact allN_mem _ hw
    simp[hv.known,-Go.AM.wp_seq]
    refine wp_cut1 (fun E A3=>Mod (JW b K2) C A3∧Env.at E 0=.ptr (some (j,0,0))∧Env.at E 4=.int .i64 f∧Env.at E 12=v∧Env.at E 38=r∧Env.at E 39=.int .i64 ks.length∧Env.at E 40=.int .i64 i2∧JoC b K2 A3 j p m { j2 with state:=if i2=f∧isSaved ls=true then tailH ls else j2.state }) ?_ ?_
    ·have eq:=eql_nat .i64 i2 f
     by_cases hif:i2=f
     ·subst hif
      simp[hv.known,f0,f4,eq,qaq,allKnown,hv.allKnown,-qqq]
      refine (saved_spec hv hqs).mono fun r5 C5 ⟨z1,z2⟩=>?_
      subst z1 z2
      simp
      refine qeq (fun hc5=>?_) (fun hc5=>?_)
      ·match ls,qs,hqs,hv,hc5,hrq,hlsl,hqf with
       | (c::l0)::ls',w::qs',hqs,hv,hc5,hrq,hlsl,hqf=>
        obtain⟨q6,g6,g7⟩:=hv.at_one (j:=0) (v:=w) rfl .i64
        have hw0:Bs C w (c::l0):=hqs.1
        obtain⟨s6,d1,d2,d3⟩:=hw0.cutFrom (lo:=1) (by rw[Bs.len hw0];simp) (k:=.i64)
        rw[Nat.mul_one,bytesV_drop,List.drop_one,List.tail_cons] at d3
        have hro6:RoS K2 s6:=fun g hg=>hrq w List.mem_cons_self g (cut_into d1 hg)
        have hl0:=hlsl (c::l0) List.mem_cons_self
        simp only[List.length_cons] at hl0
        obtain⟨C7,w7,m7,hJ7⟩:=hJ3.setState d3 hro6 (by omega)
        simp at g6 d1
        simp[hc5,f0,f4,f38,f39,f40,g6,g7,d1,AV.addr,w7]
        exact⟨m7,hJ7⟩
       | [],_,_,_,hc5,_,_,_=>cases hc5
       | []::_,_,_,_,hc5,_,_,_=>cases hc5
      ·simp[hc5,f0,f4,f38,f39,f40]
       exact⟨Mod.refl C,hJ3⟩
     ·simp[hv.known,f0,f4,f38,f39,f40,eq,hif,-qqq]
      exact⟨Mod.refl C,hJ3⟩
    ·rintro E3 A3 ⟨m3,k0,k4,k12,k38,k39,k40,hJ4⟩
     have hv3:Sl A3 1 v qs:=hv.mod m3 fun g hg hW=>hW.ne0 (hrv g hg)
     have hlv:=hv3.lenV1
     rw[hqs.length] at hlv
     have md4:Mod (JW b K) A A3:=JW_new u2 md3 m3
     have hW4:=hW3.mod m3 fun g hg=>hg.ne0
     have hp3:=PartsB.mod m3 hqs fun w hw g hg hW=>hW.ne0 (hrq w hw g hg)
     have hs4:Sl A3 1 r (ks.map (AV.int .i64)):=hs3.mod m3 fun g hg hW=>hW.ne0 (hr2 g hg)
     simp[k12,hlv]
     refine Wp.loopK (fun d E A4=>∃ K4,KUp K K4 A∧Wld K4 A0 A4∧Mod (JW b K) A A4∧Sl A4 1 r (ks.map (AV.int .i64))∧RoS K4 r∧Sl A4 1 v qs∧RoS K4 v∧PartsB A4 qs ls∧(∀ w∈qs,RoS K4 w)∧Env.at E 0=.ptr (some (j,0,0))∧Env.at E 4=.int .i64 f∧Env.at E 38=r∧Env.at E 39=.int .i64 ks.length∧Env.at E 40=.int .i64 i2∧Env.at E 79=v∧Env.at E 80=.int .i64 ls.length∧∃ y:Nat,Env.at E 81=.int .i64 y∧y+d=ls.length∧JoC b K4 A4 j p m { j2 with state:=if i2=f∧isSaved ls=true then tailH ls else j2.state,recs:=j2.recs++plainOf (ls.take y) }) ls.length ?_ ?_
     ·exact⟨K2,u2,hW4,md4,hs4,hr2,hv3,hrv,hp3,hrq,by simp[k0],by simp[k4],by simp[k38],by simp[k39],by simp[k40],by simp,by simp,0,by simp,by simp,by simpa[plainOf] using hJ4⟩
     rintro d5 E5 A5 ⟨K5,u5,hW5,md5,hs5,hr5,hv5,hrv5,hp5,hrq5,w0,w4,w38,w39,w40,w79,w80,y,w81,hy,hJ5⟩
     have hn5:(plainOf (ls.take y)).length≤1048576:=Nat.le_trans (plain_len _) (by rw[List.length_take];omega)
     simp[w80,w81,qoq,-qjq]
     refine qeq (fun hc5=>?_) (fun hc5=>?_)
     ·simp at hc5
      obtain⟨w,l,hw,hl',hb⟩:=hp5.get (i:=y) (by rw[hp5.length];exact hc5)
      obtain⟨q5,g5,g6⟩:=hv5.at_one hw .i64
      have ea5:=add_one (i:=y) (by omega)
      simp[-qbq] at ea5
      have hll:=hlsl l (List.mem_of_getElem? hl')
      have htk:=take_succ_of hl'
      have hrw:=hrq5 w (List.mem_of_getElem? hw)
      have hbl:=hb.lenV
      cases l with
      | nil=>
       have hpl:plainOf (ls.take (y+1))=plainOf (ls.take y):=by rw[htk,plainOf_append];simp[plainOf]
       have eg0:binOf .gtr (.int .i64 0) (.int .i64 0)=some (.bool false):=by rw[qfq];simp
       simp at hbl
       simp[w79,w80,w81,g5,g6,hbl,eg0,ea5,-qbq,-qfq]
       refine⟨d5 - 1,by omega,K5,u5,hW5,md5,hs5,hr5,hv5,hrv5,hp5,hrq5,w0,w4,w38,w39,w40,y+1,by omega,by omega,?_⟩
       rw[hpl]
       exact hJ5
      | cons c l0=>
       obtain⟨q7,g7,g8⟩:=hb.at_one (j:=0) (v:=byteV c) rfl .i64
       have eg1:binOf .gtr (.int .i64 ((l0.length:Int)+1)) (.int .i64 0)=some (.bool true):=by rw[qfq];simp
       have eb:binOf .eql (byteV c) (.int .u8 0)=some (.bool (decide (c=0))):=byteV_one c 0
       simp at hbl g7
       by_cases hc0:c=0
       ·have hpl:plainOf (ls.take (y+1))=plainOf (ls.take y)++[l0]:=by rw[htk,plainOf_append];simp[plainOf,hc0]
        rw[decide_eq_true hc0] at eb
        simp[w79,w81,g5,g6,hbl,eg1,g7,g8,eb,-qqq,-qfq]
        refine Wp.envI (fun E=>Env.at E 0=.ptr (some (j,0,0))∧Env.at E 4=.int .i64 f∧Env.at E 38=r∧Env.at E 39=.int .i64 ks.length∧Env.at E 40=.int .i64 i2∧Env.at E 79=v∧Env.at E 80=.int .i64 ls.length∧Env.at E 81=.int .i64 y∧Env.at E 15=w) (by simp[w0,w4,w38,w39,w40,w79,w80,w81]) ?_
        rintro E6 ⟨w0,w4,w38,w39,w40,w79,w80,w81,w15⟩
        obtain⟨s6,d1,d2',d3⟩:=hb.cutFrom (lo:=1) (by rw[Bs.len hb];simp) (k:=.i64)
        rw[Nat.mul_one,bytesV_drop,List.drop_one,List.tail_cons] at d3
        have hro6:RoS K5 s6:=fun g hg=>hrw g (cut_into d1 hg)
        simp only[List.length_cons] at hll
        obtain⟨rsx,s',B6,C7,K6,p1,p2,p3,p4,p5,p6,p7,p8,u6,fr6,hJ7,md7⟩:=hJ5.push hW5.fresh d3 hro6 (by omega) (by simp;omega)
        obtain⟨st6,rs6,ps6,h6,_⟩:=hJ5.ex
        have hrs6:rsx=rs6:=by
         have:=h6.ld 4 (v:=rs6) rfl
         rw[p1] at this
         exact Option.some.inj this
        subst hrs6
        have l4m:=p4 (A5.make [s6] 1).2 ((qdq A5 [s6] 1).get j h6.lt)
        have hW7:=hW5.mod md7 fun g hg=>hg.ne0
        have hnx:=hW5.glob.next
        have hWn:Wld K6 A0 C7:=⟨hW7.glob,fun g hg=>by rw[u6 g (by omega)];exact hW5.low g hg,fr6⟩
        have mdn:Mod (JW b K) A C7:=JW_new u5 md5 md7
        have hv7:Sl C7 1 v qs:=hv5.mod md7 fun g hg hW=>hW.ne0 (hrv5 g hg)
        have hs7:Sl C7 1 r (ks.map (AV.int .i64)):=hs5.mod md7 fun g hg hW=>hW.ne0 (hr5 g hg)
        have hp7:PartsB C7 qs ls:=PartsB.mod md7 hp5 fun w hw g hg hW=>hW.ne0 (hrq5 w hw g hg)
        have d3':Bs A5 s6 l0:=d3
        simp at d1
        refine Wp.draws ?_
        simp[w0,w15,AV.addr,p1,d1,fillA,splice,Made.value,d3'.notBot,d3'.cells,p5,p8,InAll,l4m,p3,w81,ea5,-qbq]
        refine⟨d5 - 1,by omega,K6,KUp.trans u5 u6 md5.next,hWn,mdn,hs7,hr5.up hs5 u6,hv7,hrv5.up hv5 u6,hp7,PartsB_up hp5 u6 hrq5,w4,w38,w39,w40,w79,w80,y+1,by omega,by omega,?_⟩
        rw[hpl,←List.append_assoc]
        exact hJ7
       ·have hpl:plainOf (ls.take (y+1))=plainOf (ls.take y):=by rw[htk,plainOf_append];simp[plainOf,hc0]
        rw[decide_eq_false hc0] at eb
        simp[w79,w80,w81,g5,g6,hbl,eg1,g7,g8,eb,ea5,-qqq,-qfq,-qbq]
        refine⟨d5 - 1,by omega,K5,u5,hW5,md5,hs5,hr5,hv5,hrv5,hp5,hrq5,w0,w4,w38,w39,w40,y+1,by omega,by omega,?_⟩
        rw[hpl]
        exact hJ5
     ·simp at hc5
      have hyl:y=ls.length:=by omega
      rw[hyl,List.take_length] at hJ5 hn5
      simp[w40,ea,-qbq]
      refine⟨d2 - 1,by omega,K5,u5,hW5,md5,hs5,hr5,w0,w4,w38,w39,i2+1,by omega,by omega,_,hJ5,hL2,?_⟩
      simp only[List.length_append]
      rw[Nat.add_mul]
      omega
  ·simp at hc
   have hil:i2=ks.length:=by omega
   rw[hil,List.drop_length] at hL2
   simp only[loadL] at hL2
   rw[←hL2]
   simp
   exact⟨K2,u2,hW2,md2,hJ2,EV.nil _⟩
end
def kNew (K:Nat→Nat) (n c:Nat):Nat→Nat:=fun f=>if f=n then c else K f
theorem kNew_up (K:Nat→Nat) (A:St) (c:Nat):KUp K (kNew K A.next c) A:=fun f hf=>by unfold kNew;rw[if_neg (by omega)]
theorem kNew_fresh {K:Nat→Nat} {A B:St} {c:Nat} (h:KFresh K A) (hB:A.next<B.next):KFresh (kNew K A.next c) B:=fun f hf=>by unfold kNew;rw[if_neg (by omega)];exact h f (by omega)
theorem kNew_self (K:Nat→Nat) (n c:Nat):kNew K n c n=c:=by simp[kNew]
theorem wld_new {K:Nat→Nat} {A0 A B:St} {c:Nat} (h:Wld K A0 A) (x:A.Ext B) (hB:A.next<B.next):Wld (kNew K A.next c) A0 B:=
 ⟨h.glob.trans x,fun f hf=>by rw[kNew_up K A c f (Nat.lt_of_lt_of_le hf h.glob.next)];exact h.low f hf,kNew_fresh h.fresh hB⟩
section
variable {D:Disp} {G0:Env} {X:Calls'} {A0:St}
theorem jopen_spec (HX:RowsX X A0) {b:Nat} {K:Nat→Nat} {A:St} (hA:Wld K A0 A) {p m:Nat} {t:TpD} (ht:TpC b K A p m t) {seg:Int} (hs:16≤seg∧seg≤1048576) :
  Ev D G0 fnsL X 78 [.ptr (some (p,0,0)),.int .i64 seg] A fun r B=>∃ K',KUp K K' A∧Wld K' A0 B∧Mod (JW b K) A B∧match joOpen t seg with
   | (_,some jd)=>r=.tuple [.ptr (some (A.next,0,0)),.int .i64 0]∧JoC b K' B A.next p m jd
   | (e,none)=>r=.tuple [.ptr none,.int .i64 e]:=by
 refine Ev.fnK (fn:=a78) rfl ⟨by simp[a78],by decide⟩ ?_
 unfold a78
 have g1:¬seg<16:=by omega
 have g2:¬1048576<seg:=by omega
 have x1:=qdq A [.ptr (some (p,0,0)),.int .i64 seg,.int .i64 (-1),.slice none 0 0 0 0,.slice none 0 0 0 0] 1
 have hc:=Cl.make A [.ptr (some (p,0,0)),.int .i64 seg,.int .i64 (-1),.slice none 0 0 0 0,.slice none 0 0 0 0]
 simp[eqV,eqOf,g1,g2,fillA,splice,aggV,boxV,Made.value,qaq,allKnown]
 generalize (A.make [.ptr (some (p,0,0)),.int .i64 seg,.int .i64 (-1),.slice none 0 0 0 0,.slice none 0 0 0 0] 1).2=A1 at *
 have hlt:=hc.lt
 have hA1:Wld (kNew K A.next (b+2)) A0 A1:=wld_new hA x1 hlt
 have u1:=kNew_up K A (b+2)
 have hJ:JoC b (kNew K A.next (b+2)) A1 A.next p m ⟨t,seg,-1,[],[]⟩:=
  ⟨(ht.up u1).ext x1,⟨.slice none 0 0 0 0,.slice none 0 0 0 0,[],hc,.nil _ _ _,(fun f hf=>by cases hf),.nil _ _ _,trivial,(fun v hv=>by cases hv),(fun f hf=>by cases hf)⟩,kNew_self _ _ _,⟨by simp,by simp only;omega,by simp,fun r hr=>by cases hr⟩⟩
 have mdK:∀ {B:St},Mod (JW b (kNew K A.next (b+2))) A1 B→Mod (JW b K) A B:=fun m=>JW_new u1 (Mod.of_ext x1) m
 refine (mend_spec HX hA1 hJ rfl).mono fun r B ⟨m1,j1,e1⟩=>?_
 have hA2:=hA1.mod m1 fun f hf=>hf.ne0
 have hjo:joOpen t seg=if (mendL t.keys.reverse t).1≠0 then ((mendL t.keys.reverse t).1,none) else
   if (loadL (firstL (mendL t.keys.reverse t).2.2 0 (mendL t.keys.reverse t).2.2.keys 0) 0 (mendL t.keys.reverse t).2.2.keys ⟨(mendL t.keys.reverse t).2.2,seg,(mendL t.keys.reverse t).2.1,[],[]⟩).1≠0 then ((loadL (firstL (mendL t.keys.reverse t).2.2 0 (mendL t.keys.reverse t).2.2.keys 0) 0 (mendL t.keys.reverse t).2.2.keys ⟨(mendL t.keys.reverse t).2.2,seg,(mendL t.keys.reverse t).2.1,[],[]⟩).1,none) else
   (0,some (loadL (firstL (mendL t.keys.reverse t).2.2 0 (mendL t.keys.reverse t).2.2.keys 0) 0 (mendL t.keys.reverse t).2.2.keys ⟨(mendL t.keys.reverse t).2.2,seg,(mendL t.keys.reverse t).2.1,[],[]⟩).2):=by
  unfold joOpen
  rw[if_neg (by omega)]
 simp only at j1 e1
 rw[hjo]
 generalize mendL t.keys.reverse t=MM at *
 rcases MM with ⟨em,cm,tm⟩
 simp only at j1 e1 ⊢
 rcases e1 with ⟨h0,rfl⟩|⟨h0,n,ty,u,hk,rfl,h2⟩
 rotate_left
 ·simp only[if_pos h0]
  simp[eqV,eqOf,qaq,allKnown]
  refine (qvq HX hA2.glob (h2.ev hk)).mono fun r C ⟨q1,q2⟩=>?_
  subst q1 q2
  simp
  exact⟨_,u1,hA2,mdK m1⟩
 have hn0:¬em≠0:=by simp[h0]
 simp only[if_neg hn0]
 simp[eqV,eqOf,qaq,allKnown]
 refine (load_spec HX hA2 j1 (by simp)).mono fun r C ⟨K2,u2,w2,m2,j2,e2⟩=>?_
 simp only at j2 e2
 generalize loadL (firstL tm 0 tm.keys 0) 0 tm.keys ⟨tm,seg,cm,[],[]⟩=LL at *
 rcases LL with ⟨el,jl⟩
 simp only at j2 e2 ⊢
 have hAB:A.next≤B.next:=(mdK m1).next
 have u12:KUp K K2 A:=KUp.trans u1 u2 hAB
 have md2:Mod (JW b K) A C:=JW_new u1 (mdK m1) m2
 rcases e2 with ⟨h0',rfl⟩|⟨h0',n,ty,u,hk,rfl,h2⟩
 rotate_left
 ·simp[eqV,eqOf,h0',qaq,allKnown]
  refine (qvq HX w2.glob (h2.ev hk)).mono fun r C2 ⟨q1,q2⟩=>?_
  subst q1 q2
  simp
  exact⟨_,u12,w2,md2⟩
 ·simp[eqV,eqOf,h0']
  exact⟨_,u12,w2,md2,j2⟩
end
theorem newR_spec {D:Disp} {G0:Env} {X:Calls'} {A:St} {e:Int} (he:e≠0):Ev D G0 fnsL X 90 [.int .i64 e] A fun r B=>r=.iface 229 (.ptr (some (A.next,0,0)))∧B=(A.make [.int .i64 e] 1).2:=by
 refine Ev.fnK (fn:=a90) rfl ⟨by simp[a90],by decide⟩ ?_
 unfold a90
 simp[he,fillA,AV.isBot,AV.cells,splice,boxV,Made.value,mkIfaceV]
theorem atR_spec {D:Disp} {G0:Env} {X:Calls'} {A:St} {i:Int} {t:TypeId} {v:AV}:Ev D G0 fnsL X 82 [.int .i64 i,.iface t v] A fun r B=>r=.iface 251 (.ptr (some (A.next,0,0)))∧B=(A.make [.iface t v,.int .i64 i] 1).2:=by
 refine Ev.fnK (fn:=a82) rfl ⟨by simp[a82],by decide⟩ ?_
 unfold a82
 simp[eqV,eqOf,fillA,AV.isBot,AV.cells,splice,boxV,Made.value,mkIfaceV]
def ErrF (lo:Nat) (A:St) (v:AV) (e:Int):Prop:=∀ B:St,A.next≤B.next→(∀ f,lo≤f→f<A.next→B.get f=A.get f)→EV B v e
theorem ErrF.is {lo:Nat} {A:St} {v:AV} {e:Int} (h:ErrF lo A v e):EV A v e:=h A (Nat.le_refl _) fun _ _ _=>rfl
theorem ErrF.mod {W:Nat→Prop} {lo:Nat} {A B:St} {v:AV} {e:Int} (h:ErrF lo A v e) (m:Mod W A B) (hw:∀ f,W f→f<lo):ErrF lo B v e:=fun C hn hg=>h C (Nat.le_trans m.next hn) fun f h1 h2=>(hg f h1 (Nat.lt_of_lt_of_le h2 m.next)).trans (m.get f h2 fun hW=>by have:=hw f hW;omega)
theorem ErrF.mono {lo lo':Nat} {A:St} {v:AV} {e:Int} (h:ErrF lo A v e) (hl:lo'≤lo):ErrF lo' A v e:=fun C hn hg=>h C hn fun f h1 h2=>hg f (by omega) h2
structure InR (A0:St) (lo:Nat) (A:St) (p:Nat) (b:List UInt8) (st:RdS):Prop where
 glob:A0.Ext A
 base:A0.next≤p
 low:p<lo
 top:lo≤A.next
 ex:∃ s e i,InC A p b s e i∧match st with
  | some l=>e=.nilIface∧l=b.drop i
  | none=>∃ t q c,e=.iface t (.ptr q)∧c≠0∧ErrF lo A e c
theorem glob_mod {A0 A B:St} {p:Nat} (h:A0.Ext A) (hp:A0.next≤p) (m:Mod (fun f=>f=p) A B):A0.Ext B:=⟨Nat.le_trans h.next m.next,fun f hf=>(m.get f (Nat.lt_of_lt_of_le hf h.next) (by omega)).trans (h.get f hf)⟩
theorem InR.mod {A0:St} {W:Nat→Prop} {lo:Nat} {A B:St} {p:Nat} {b:List UInt8} {st:RdS} (h:InR A0 lo A p b st) (m:Mod W A B) (hp:∀ f,W f→f<lo∧p<f):InR A0 lo B p b st:=by
 obtain⟨s,e,i,h1,h2⟩:=h.ex
 refine⟨⟨Nat.le_trans h.glob.next m.next,fun f hf=>(m.get f (Nat.lt_of_lt_of_le hf h.glob.next) (fun hW=>by have:=hp f hW;have:=h.base;omega)).trans (h.glob.get f hf)⟩,h.base,h.low,Nat.le_trans h.top m.next,s,e,i,h1.mod m (fun hW=>by have:=hp p hW;omega) (fun f hf hW=>by have:=hp f hW;have:=h1.below f hf;omega),?_⟩
 cases st with
 | some l=>exact h2
 | none=>
  obtain⟨t,v,c,q1,q2,q3⟩:=h2
  exact⟨t,v,c,q1,q2,q3.mod m fun f hW=>(hp f hW).1⟩
theorem InR.raise {A0:St} {lo lo':Nat} {A:St} {p:Nat} {b l:List UInt8} (h:InR A0 lo A p b (some l)) (h1:p<lo') (h2:lo'≤A.next):InR A0 lo' A p b (some l):=by
 obtain⟨s,e,i,q1,q2⟩:=h.ex
 exact⟨h.glob,h.base,h1,h2,s,e,i,q1,q2⟩
theorem InR.lower {A0:St} {lo lo':Nat} {A:St} {p:Nat} {b:List UInt8} {st:RdS} (h:InR A0 lo A p b st) (h1:p<lo') (h2:lo'≤lo):InR A0 lo' A p b st:=by
 obtain⟨s,e,i,q1,q2⟩:=h.ex
 refine⟨h.glob,h.base,h1,Nat.le_trans h2 h.top,s,e,i,q1,?_⟩
 cases st with
 | some l=>exact q2
 | none=>
  obtain⟨t,q,c,e1,e2,e3⟩:=q2
  exact⟨t,q,c,e1,e2,e3.mono h2⟩
section
variable {D:Disp} {G0:Env} {X:Calls'} {A0:St}
theorem bad_spec {A:St} {p:Nat} {b:List UInt8} {s e:AV} {i:Nat} (h:InC A p b s e i) (he:e=.nilIface∨∃ t v,e=.iface t v):Ev D G0 fnsL X 271 [.ptr (some (p,0,0))] A fun r B=>A=B∧r=.bool (match e with|.nilIface=>false|_=>true):=by
 refine Ev.fnK (fn:=a271) rfl ⟨by simp[a271],by decide⟩ ?_
 unfold a271
 have l2:=h.cl.ld 2 (v:=e) rfl
 rcases he with rfl|⟨t,v,rfl⟩
 ·simp[AV.addr,l2,eqV,eqOf]
 ·simp[AV.addr,l2,eqV,eqOf]
theorem fail_spec {A:St} {p:Nat} {b:List UInt8} {s:AV} {i:Nat} (h:InC A p b s .nilIface i) {k:Nat} (hk:k≤b.length) {c:Int} (hc:c≠0) :
  Ev D G0 fnsL X 273 [.ptr (some (p,0,0)),.int .i64 k,.int .i64 c] A fun r B=>r=.tuple []∧Mod (fun f=>f=p) A B∧∃ q,InC B p b s (.iface 251 (.ptr q)) k∧ErrF A.next B (.iface 251 (.ptr q)) c:=by
 refine Ev.fnK (fn:=a273) rfl ⟨by simp[a273],by decide⟩ ?_
 unfold a273
 have l2:=h.cl.ld 2 (v:=.nilIface) rfl
 simp[AV.addr,l2,eqV,eqOf,qaq,allKnown]
 refine (newR_spec hc).mono fun r B ⟨hr,hB⟩=>?_
 subst hr
 simp[AV.addr,qaq,allKnown]
 refine (atR_spec).mono fun r2 B2 ⟨hr2,hB2⟩=>?_
 subst hr2
 have xa:=qdq A [.int .i64 c] 1
 have c1:=cells_made A (cs:=[.int .i64 c]) (n:=1) rfl
 have hBn:B.next=A.next+1:=by rw[hB];rfl
 rw[←hB] at xa c1
 have xb:=qdq B [.iface 229 (.ptr (some (A.next,0,0))),.int .i64 k] 1
 have c2:=cells_made B (cs:=[.iface 229 (.ptr (some (A.next,0,0))),.int .i64 k]) (n:=2) rfl
 have hB2n:B2.next=B.next+1:=by rw[hB2];rfl
 rw[←hB2] at xb c2
 have c1':=cells_kept xb (p:=(A.next,0,0)) (by rw[hBn];exact Nat.lt_succ_self _) c1
 clear hB hB2
 have x:=xa.trans xb
 have hin:=h.ext x
 have hlt:=h.cl.lt
 obtain⟨st1,st2⟩:=hin.cl.st 2 (by simp) (v:=.iface 251 (.ptr (some (B.next,0,0)))) rfl rfl rfl
 have st1':storeV B2 1 (.ptr (some (p,0,2))) (.iface 251 (.ptr (some (B.next,0,0))))=some (.bot,B2.put p (.cells [s,.int .i64 i,.iface 251 (.ptr (some (B.next,0,0)))] [⟨0,0,3,1⟩] 1 false)):=st1
 have st2':Cl (B2.put p (.cells [s,.int .i64 i,.iface 251 (.ptr (some (B.next,0,0)))] [⟨0,0,3,1⟩] 1 false)) p [s,.int .i64 i,.iface 251 (.ptr (some (B.next,0,0)))]:=st2
 clear st1 st2
 have m1:=mod_put (W:=fun f=>f=p) B2 p (.cells [s,.int .i64 i,.iface 251 (.ptr (some (B.next,0,0)))] [⟨0,0,3,1⟩] 1 false) rfl
 have hn1:(B2.put p (.cells [s,.int .i64 i,.iface 251 (.ptr (some (B.next,0,0)))] [⟨0,0,3,1⟩] 1 false)).next=B2.next:=rfl
 simp[AV.addr,st1']
 generalize B2.put p (.cells [s,.int .i64 i,.iface 251 (.ptr (some (B.next,0,0)))] [⟨0,0,3,1⟩] 1 false)=B3 at *
 obtain⟨st3,st4⟩:=st2'.st 1 (by simp) (v:=.int .i64 k) rfl rfl rfl
 have st3':storeV B3 1 (.ptr (some (p,0,1))) (.int .i64 k)=some (.bot,B3.put p (.cells [s,.int .i64 k,.iface 251 (.ptr (some (B.next,0,0)))] [⟨0,0,3,1⟩] 1 false)):=st3
 have st4':Cl (B3.put p (.cells [s,.int .i64 k,.iface 251 (.ptr (some (B.next,0,0)))] [⟨0,0,3,1⟩] 1 false)) p [s,.int .i64 k,.iface 251 (.ptr (some (B.next,0,0)))]:=st4
 clear st3 st4
 have m2:=mod_put (W:=fun f=>f=p) B3 p (.cells [s,.int .i64 k,.iface 251 (.ptr (some (B.next,0,0)))] [⟨0,0,3,1⟩] 1 false) rfl
 have hn2:(B3.put p (.cells [s,.int .i64 k,.iface 251 (.ptr (some (B.next,0,0)))] [⟨0,0,3,1⟩] 1 false)).next=B3.next:=rfl
 try simp[AV.addr,st3']
 generalize B3.put p (.cells [s,.int .i64 k,.iface 251 (.ptr (some (B.next,0,0)))] [⟨0,0,3,1⟩] 1 false)=B4 at *
 have m:Mod (fun f=>f=p) B2 B4:=m1.trans m2
 have hw:∀ f,s.into f=true→¬f=p:=fun f hf he=>by rw[he,h.off] at hf;cases hf
 refine⟨(Mod.of_ext x).trans m,_,⟨st4',hin.sl.mod m hw,h.below,hk,h.few⟩,fun C hn hg=>?_⟩
 have e1:C.cells (B.next,0,0) 2=B2.cells (B.next,0,0) 2:=St.cells_ext ((hg B.next (by omega) (by omega)).trans (m.get B.next (by omega) (by omega)))
 have e2:C.cells (A.next,0,0) 1=B2.cells (A.next,0,0) 1:=St.cells_ext ((hg A.next (by omega) (by omega)).trans (m.get A.next (by omega) (by omega)))
 exact (ErrSh.place (lo:=0) (Nat.zero_le _) (by omega) (e1.trans c2) (.num (Nat.zero_le _) (by omega) (e2.trans c1') hc)).ev (by decide)
theorem inNat_spec {lo:Nat} {A:St} {p:Nat} {b:List UInt8} {st:RdS} (h:InR A0 lo A p b st) :
  Ev D G0 fnsL X 167 [.ptr (some (p,0,0))] A fun r B=>r=.int .u64 (natS st).1∧Mod (fun f=>f=p) A B∧InR A0 lo B p b (natS st).2:=by
 refine Ev.fnK (fn:=a167) rfl ⟨by simp[a167],by decide⟩ ?_
 unfold a167
 obtain⟨s,e,i,hC,he⟩:=h.ex
 cases st with
 | none=>
  obtain⟨t,v,c,rfl,_⟩:=he
  simp[qaq,allKnown]
  refine (bad_spec hC (.inr ⟨t,_,rfl⟩)).mono fun r B ⟨hB,hr⟩=>?_
  subst hB hr
  simp[natS]
  exact⟨Mod.refl A,h⟩
 | some l=>
  obtain⟨rfl,hl⟩:=he
  simp[qaq,allKnown]
  refine (bad_spec hC (.inl rfl)).mono fun r B ⟨hB,hr⟩=>?_
  subst hB hr
  have l1:=hC.cl.ld 1 (v:=.int .i64 i) rfl
  simp[AV.addr,l1,qaq,allKnown]
  refine (nat_spec hC).mono fun r B ⟨m1,j,hC1,hr⟩=>?_
  rw[←hl] at hr
  have g1:=glob_mod h.glob h.base m1
  cases hp:natP l with
  | some x=>
   obtain⟨n,l'⟩:=x
   rw[hp] at hr
   obtain⟨rfl,hl'⟩:=hr
   simp[natS,hp]
   exact⟨m1,g1,h.base,h.low,Nat.le_trans h.top m1.next,s,.nilIface,j,hC1,rfl,hl'⟩
  | none=>
   rw[hp] at hr
   simp only at hr
   subst hr
   simp[natS,hp,qaq,allKnown]
   refine (fail_spec hC1 hC.le (by decide)).mono fun r B2 ⟨hr,m2,v,hC2,hF⟩=>?_
   subst hr
   simp
   exact⟨m1.trans m2,glob_mod g1 h.base m2,h.base,h.low,Nat.le_trans h.top (Nat.le_trans m1.next m2.next),s,_,i,hC2,_,v,6,rfl,by decide,hF.mono (Nat.le_trans h.top m1.next)⟩
theorem str_spec {A:St} {p:Nat} {b:List UInt8} {s:AV} {i:Nat} (h:InC A p b s .nilIface i) {most:Nat} (hm:most<2^40) :
  Ev D G0 fnsL X 353 [.ptr (some (p,0,0)),.int .i64 most] A fun r B=>Mod (fun f=>f=p) A B∧∃ j,InC B p b s .nilIface j ∧
   match natP (b.drop i) with
   | none=>r=.tuple [.str [],.int .i64 6]
   | some (n,l)=>(most<n∧r=.tuple [.str [],.int .i64 7])∨(n≤most∧l.length<n∧r=.tuple [.str [],.int .i64 6])∨(n≤most∧n≤l.length∧r=.tuple [.str (l.take n),.int .i64 0]∧l.drop n=b.drop j):=by
 refine Ev.fnK (fn:=a353) rfl ⟨by simp[a353],by decide⟩ ?_
 unfold a353
 simp[qaq,allKnown]
 refine (nat_spec h).mono fun r B ⟨m1,j,h1,hr⟩=>?_
 cases hp:natP (b.drop i) with
 | none=>
  rw[hp] at hr
  simp only at hr
  subst hr
  simp
  exact⟨m1,j,h1⟩
 | some x=>
  obtain⟨n,l⟩:=x
  rw[hp] at hr
  obtain⟨rfl,hl⟩:=hr
  have hn:=(natP_some hp).2
  have ec:convV .u64 (.int .i64 (most:Int))=some (.int .u64 (most:Int)):=by rw[qhq,qAq rfl (show most<2^64 by omega)]
  have eg:binOf .gtr (.int .u64 (n:Int)) (.int .u64 (most:Int))=some (.bool (decide (most<n))):=by rw[qfq];simp
  have emx:foldA max2 (.int .i64 (most:Int)) [.int .i64 0]=some (.int .i64 (most:Int)):=by
   simp only[foldA,max2]
   rw[if_pos trivial,if_neg (by omega)]
  simp[pureOf,emx,ec,eg,-qfq,-qhq]
  refine qeq (fun hc=>?_) (fun hc=>?_)
  ·simp at hc
   simp
   exact⟨m1,⟨j,h1⟩,hc⟩
  ·simp at hc
   simp[qaq,allKnown]
   refine (raw_spec h1 hn).mono fun r B2 hr=>?_
   have hll:l.length=b.length - j:=by rw[hl,List.length_drop]
   rcases hr with ⟨q1,rfl,rfl⟩|⟨q1,m2,h2,s',rfl,sl,off⟩
   ·simp
    exact⟨m1,⟨j,h1⟩,hc,by omega⟩
   ·have ht:=Sl.text sl
    rw[←hl] at ht
    simp[ht]
    exact⟨m1.trans m2,j+n,h2,hc,by omega,by rw[hl,List.drop_drop]⟩
theorem inStr_spec {lo:Nat} {A:St} {p:Nat} {b:List UInt8} {st:RdS} (h:InR A0 lo A p b st) {most:Nat} (hm:most<2^40) :
  Ev D G0 fnsL X 274 [.ptr (some (p,0,0)),.int .i64 most] A fun r B=>r=.str (strS most st).1∧Mod (fun f=>f=p) A B∧InR A0 lo B p b (strS most st).2:=by
 refine Ev.fnK (fn:=a274) rfl ⟨by simp[a274],by decide⟩ ?_
 unfold a274
 obtain⟨s,e,i,hC,he⟩:=h.ex
 cases st with
 | none=>
  obtain⟨t,v,c,rfl,_⟩:=he
  simp[qaq,allKnown]
  refine (bad_spec hC (.inr ⟨t,_,rfl⟩)).mono fun r B ⟨hB,hr⟩=>?_
  subst hB hr
  simp[strS]
  exact⟨Mod.refl A,h⟩
 | some l=>
  obtain⟨rfl,hl⟩:=he
  simp[qaq,allKnown]
  refine (bad_spec hC (.inl rfl)).mono fun r B ⟨hB,hr⟩=>?_
  subst hB hr
  have l1:=hC.cl.ld 1 (v:=.int .i64 i) rfl
  simp[AV.addr,l1,qaq,allKnown]
  refine (str_spec hC hm).mono fun r B ⟨m1,j,hC1,hr⟩=>?_
  rw[←hl] at hr
  have g1:=glob_mod h.glob h.base m1
  have fin:∀ (c:Int),c≠0→Ev D G0 fnsL X 273 [.ptr (some (p,0,0)),.int .i64 i,.int .i64 c] B fun r B2=>r=.tuple []∧Mod (fun f=>f=p) A B2∧InR A0 lo B2 p b none:=fun c hc=>by
   refine (fail_spec hC1 hC.le hc).mono fun r B2 ⟨hr,m2,v,hC2,hF⟩=>?_
   exact⟨hr,m1.trans m2,glob_mod g1 h.base m2,h.base,h.low,Nat.le_trans h.top (Nat.le_trans m1.next m2.next),s,_,i,hC2,_,v,c,rfl,hc,hF.mono (Nat.le_trans h.top m1.next)⟩
  cases hp:natP l with
  | none=>
   rw[hp] at hr
   simp only at hr
   subst hr
   simp[strS,hp,qaq,allKnown]
   refine (fin 6 (by decide)).mono fun r B2 ⟨hr,hm,hi⟩=>?_
   subst hr
   simp
   exact⟨hm,hi⟩
  | some x=>
   obtain⟨n,l'⟩:=x
   rw[hp] at hr
   rcases hr with ⟨hn,rfl⟩|⟨hn,hk,rfl⟩|⟨hn,hk,rfl,hd⟩
   ·simp[strS,hp,hn,qaq,allKnown]
    refine (fin 7 (by decide)).mono fun r B2 ⟨hr,hm,hi⟩=>?_
    subst hr
    simp
    exact⟨hm,hi⟩
   ·simp[strS,hp,hk,qaq,allKnown]
    refine (fin 6 (by decide)).mono fun r B2 ⟨hr,hm,hi⟩=>?_
    subst hr
    simp
    exact⟨hm,hi⟩
   ·have hno:¬(most<n∨l'.length<n):=by omega
    simp only[strS,hp,if_neg hno]
    simp
    exact⟨m1,g1,h.base,h.low,Nat.le_trans h.top m1.next,s,.nilIface,j,hC1,rfl,hd⟩
end
end Go.Proofs.YtlaoookdegmnnaaGreatDoor
namespace Go.AM
theorem own_appendF {lo:Nat} {A:St} {sz bytes n:Nat} {s x:AV} {cs ds:List AV} (hs:Own lo A sz s cs) (hn:lenA x=some n) (hf:firstA A sz n x=some ds) (hlen:ds.length=n*sz) (hlo:lo≤A.next) (hz:sz≠0) (hfl:ds.all AV.flat=true)
  (hb:(s.slen+n)*bytes≤70368744177664) (hb':s.slen+n≤70368744177664) :
  ∃ s' B,appendOf A sz bytes s x=some (s',B)∧s'.slen=s.slen+n∧Own lo B sz s' (cs++ds)∧But A B s∧∀ f,s'.into f=true→s.into f=true∨A.next≤f:=by
 unfold appendOf
 rw[hn]
 dsimp only
 rw[hf]
 dsimp only
 rw[if_pos ⟨hfl,hlen,hz⟩]
 by_cases hn0:n=0
 ·subst hn0
  have:ds=[]:=by simpa using hlen
  subst this
  refine⟨s,A,?_,by simp,by simpa using hs,But.refl A s,fun f h=>.inl h⟩
  cases hs with
  | nil po cap q=>simp
  | @mem f v o po len cap q all vers nv y hlo' hf' hg hv h1 h2 h3 hq=>
   cases q with
   | zero=>
    have:len≤cap:=by rcases hq with h|h;exact h.2.1;exact absurd rfl h.2
    simp[this]
   | succ q=>simp
 ·cases hs with
  | nil po cap q=>
   simp only[AV.slen,Nat.zero_add] at hb hb'
   refine⟨.slice (some (A.next,0,0)) 0 n 0 sz,(A.make ds sz).2,?_,by simp[AV.slen],by simpa using own_make A hlen hz hlo,But.of_ext (qdq _ _ _) _,fun f h=>.inr ?_⟩
   ·simp only[ne_eq,not_true_eq_false,if_false,hn0]
    rw[if_pos ⟨hb,hb'⟩]
    rfl
   ·simp[AV.into] at h;omega
  | @mem f v o po len cap q all vers nv y hlo' hf' hg hv h1 h2 h3 hq=>
   have hsl:=(Own.mem (po:=po) hlo' hf' hg hv h1 h2 h3 hq).sl
   simp only[AV.slen] at hb hb'
   cases q with
   | zero=>
    have hq':len≤cap∧o+cap*sz≤y.hi:=by rcases hq with h|h;exact h.2;exact absurd rfl h.2
    dsimp only
    by_cases hfit:len+n≤cap
    ·have hfit':o+(len+n)*sz≤y.hi:=Nat.le_trans (Nat.add_le_add_left (Nat.mul_le_mul_right _ hfit) _) hq'.2
     obtain⟨B,w1,w2,rfl⟩:=own_write (po:=po) (cap:=cap) (q:=0) hlo' hf' hg hv h1 h3 hlen hfl hfit' (.inl ⟨rfl,hfit,hq'.2⟩)
     refine⟨.slice (some (f,v,o)) po (len+n) cap 0,_,?_,by simp[AV.slen],w2,but_put _,fun g h=>.inl (by simpa[AV.into] using h)⟩
     rw[if_pos hfit,if_neg hn0,w1]
    ·have hcells:A.cells (f,v,o) (len*sz)=some ((all.drop o).take (len*sz)):=by
      cases hsl with
      | mem _ hc _=>exact hc
     have hcl:=cells_length hcells
     refine⟨.slice (some (A.next,0,0)) 0 (len+n) 0 sz,(A.make ((all.drop o).take (len*sz)++ds) sz).2,?_,by simp[AV.slen],own_make A (by rw[List.length_append,hcl,hlen,Nat.add_mul]) hz hlo,But.of_ext (qdq _ _ _) _,fun g h=>.inr ?_⟩
     ·rw[if_neg hfit,if_pos ⟨hb,hb'⟩,hcells]
      rfl
     ·simp[AV.into] at h;omega
   | succ q=>
    have hq':q+1=sz:=by rcases hq with h|h;exact absurd h.1 (by omega);exact h.1
    dsimp only
    rw[if_neg hn0,if_pos ⟨hb,hb',hq'⟩,hg]
    dsimp only
    rw[hv]
    dsimp only
    rw[if_pos ⟨h1,h2,h3⟩]
    by_cases hfit:o+(len+n)*sz≤y.hi
    ·obtain⟨B,w1,w2,rfl⟩:=own_write (po:=po) (cap:=cap) (q:=q+1) hlo' hf' hg hv h1 h3 hlen hfl hfit (.inr ⟨hq',by omega⟩)
     refine⟨.slice (some (f,v,o)) po (len+n) cap (q+1),_,?_,by simp[AV.slen],w2,but_put _,fun g h=>.inl (by simpa[AV.into] using h)⟩
     rw[if_pos hfit,w1]
    ·rw[if_neg hfit]
     refine⟨_,_,rfl,by simp[AV.slen],?_,but_put _,fun g h=>.inl (by simpa[AV.into] using h)⟩
     have e:=grown_cells (all:=all) (ds:=ds) (rest:=[]) (o:=o) (a:=len*sz) (b:=n*sz) (by omega) hlen
     rw[List.append_nil] at e
     rw[←e,←Nat.add_mul]
     exact .mem hlo' hf' (by rw[St.get_put,if_pos rfl]) (by simp[findVer];rfl) (Nat.le_refl _) (Nat.le_refl _) (by simp[hlen,Nat.add_mul];omega) (.inr ⟨hq',by omega⟩)

theorem appendV_str {lo:Nat} {A:St} {bytes:Nat} {s:AV} {cs:List AV} {l:List UInt8} (hs:Own lo A 1 s cs) (hlo:lo≤A.next) (hb:(s.slen+l.length)*bytes≤70368744177664) (hb':s.slen+l.length≤70368744177664) :
  ∃ s' B,appendV A true 1 bytes s (.str l)=some (s',B)∧s'.slen=s.slen+l.length∧Own lo B 1 s' (cs++bytesV l)∧But A B s∧∀ f,s'.into f=true→s.into f=true∨A.next≤f:=by
 obtain⟨s',B,h1,h2⟩:=own_appendF (bytes:=bytes) (x:=.str l) (n:=l.length) (ds:=bytesV l) hs rfl (by simp only[firstA,List.take_length];rfl) (by simp) hlo (by decide) (bytesV_flat l) hb hb'
 exact⟨s',B,by unfold appendV;exact h1,h2⟩
theorem Cl.sl {A:St} {f:Nat} {cs:List AV} (h:Cl A f cs):Sl A 1 (.slice (some (f,0,0)) 0 cs.length cs.length 0) cs:=by
 refine .mem h.lt ?_ (.inl ⟨rfl,Nat.le_refl _⟩)
 unfold St.cells
 rw[h.look]
 dsimp only
 rw[if_pos ⟨Nat.zero_le _,by omega,Nat.le_refl _⟩]
 simp
theorem set_zero {α:Type} {z v:α} {k:Nat} {l:List α}:(List.replicate (k+1) z++l).set k v=List.replicate k z++(v::l):=by
 rw[List.replicate_succ',List.append_assoc,List.set_append_right _ _ (by simp)]
 simp
end Go.AM
