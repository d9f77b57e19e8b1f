/- The document's rows: one change. -/
import Derived.Test.YtlaoookdegmnnaaGreatDoorHpCellA
import Derived.Test.YtlaoookdegmnnaaGreatDoorStFrames
set_option maxRecDepth 100000
set_option linter.unusedSimpArgs false
set_option linter.unusedVariables false
namespace Go.Proofs.YtlaoookdegmnnaaGreatDoor
open Go.AM
theorem fold_take_none {c:List ChD} {rows:List RowD} {i:Nat} (h:foldC rows (c.take i)=none):foldC rows c=none:=by
 have:=fold_append (a:=c.take i) (b:=c.drop i) (l:=rows)
 rw[List.take_append_drop,h] at this
 exact this
theorem fold_take_succ {c:List ChD} {rows q:List RowD} {i:Nat} {x:ChD} (h:foldC rows (c.take i)=some q) (hx:c[i]?=some x):foldC rows (c.take (i+1))=if 256<(withL q x).length then none else some (withL q x):=by
 have ht:c.take (i+1)=c.take i++[x]:=by rw[List.take_add_one,hx];rfl
 rw[ht,fold_append,h]
 rfl
section
variable {D:Disp} {G0:Env} {X:Calls'} {A0:St}
theorem applyC_spec (HX:RowsX X A0) (HC:RowsC X) (HI:RowsI X) {lo:Nat} {A:St} {p:Nat} {rows:List RowD} (h:CelC lo A p rows) {s:AV} {l:List ChD} (hs:Sl A 3 s (ChR.all l)) (hl:l.length<2^40) (hg:A0.Ext A) :
  Ev D G0 fnsL X 152 [.ptr (some (p,0,0)),s] A fun r B=>r=.int .i64 (applyL rows l).1∧Mod (fun f=>f=p) A B∧((applyL rows l).1=0→CelC (min lo A.next) B p (applyL rows l).2):=by
 refine Ev.fnK (fn:=a152) rfl ⟨by simp[a152],by decide⟩ ?_
 unfold a152
 unfold applyL
 simp[eqV,eqOf,qaq,allKnown,hs.allKnown,-List.all_eq_true]
 refine (anyNot_spec hs hl).mono fun r B ⟨x1,hr⟩=>?_
 subst hr
 have hall:l.all okC=allOk l:=rfl
 rw[hall]
 cases ha:allOk l with
 | false=>
  simp
  exact Mod.of_ext x1
 | true=>
  have h1:=h.ext x1
  have hs1:=Sl.ext x1 hs
  simp[qaq,allKnown]
  refine (copy_spec h1).mono fun r C ⟨x2,q,hr,hq⟩=>?_
  subst hr
  have x12:=x1.trans x2
  have hs2:=Sl.ext x2 hs1
  have hlen:=hs2.rec_lenV
  simp[hlen]
  refine Wp.loopK (fun d E A'=>A.Ext A'∧Env.at E 0=.ptr (some (p,0,0))∧Env.at E 5=.ptr (some (q,0,0))∧Env.at E 15=s∧Env.at E 16=.int .i64 l.length∧∃ i:Nat,Env.at E 17=.int .i64 i∧i≤l.length∧i+d=l.length∧∃ w,foldC rows (l.take i)=some w∧CelC B.next A' q w) l.length ?_ ?_
  ·exact⟨x12,by simp,by simp,by simp,by simp,0,by simp,Nat.zero_le _,by simp,rows,rfl,hq⟩
  rintro d E A' ⟨x,e0,e5,e15,e16,i,e17,h2,h3,w,hw,hC⟩
  simp[e16,e17,qoq,-qjq]
  refine qeq (fun hc=>?_) (fun hc=>?_)
  ·simp at hc
   have hgi:l[i]?=some l[i]:=List.getElem?_eq_getElem hc
   obtain⟨p',g1,g2⟩:=(Sl.ext x hs).rec_at hgi .i64
   obtain⟨B',w1,w2,w3⟩:=local_put A' (cs:=[.str [],.int .i64 0,.bool false]) (n:=3) rfl (l:=ChR.cells l[i]) rfl rfl
   have l0:=w3.ld 0 (v:=.str l[i].key) rfl
   have l1:=w3.ld 1 (v:=.int .i64 l[i].n) rfl
   have l2:=w3.ld 2 (v:=.bool l[i].there) rfl
   have ea:=add_one (i:=i) (by omega)
   simp[-qbq] at ea
   have hstep:=fold_take_succ hw hgi
   have hC2:=hC.ext w2
   have ext:∀ {C':St},Mod (fun f=>B.next≤f) B' C'→A.Ext C':=fun {C'} m=>(((Mod.of_ext (W:=fun f=>B.next≤f) (x.trans w2)).trans m).mono (W':=fun _=>False) (fun f hf hW=>by have:=x1.next;omega)).ext
   simp[e0,e5,e15,e16,e17,g1,g2,Made.value,w1,AV.addr,l0,l1,l2,unOf,-qbq]
   cases ht:l[i].there with
   | false=>
    have hx:l[i]=⟨l[i].key,l[i].n,false⟩:=by rw[←ht]
    simp[e5,AV.addr,l0,qaq,allKnown]
    refine (drop_spec' HC l[i].n hC2).mono fun r C' ⟨m,hC3,hr⟩=>?_
    subst hr
    rw[←hx] at hC3
    have hle:(withL w l[i]).length≤256:=hC3.few
    rw[if_neg (by omega)] at hstep
    simp[e0,e5,e15,e16,e17,ea,-qbq]
    exact⟨d - 1,by omega,ext m,i+1,by omega,by omega,by omega,_,hstep,hC3⟩
   | true=>
    have hx:l[i]=⟨l[i].key,l[i].n,true⟩:=by rw[←ht]
    simp[e5,AV.addr,l0,l1,qaq,allKnown]
    refine (set_spec HC HI hC2).mono fun r C' ⟨m,hr⟩=>?_
    rw[←hx] at hr
    have xx:=ext m
    rcases hr with ⟨h4,h5,h6⟩|⟨h4,h5,h6⟩
    ·rw[if_pos h4] at hstep
     rw[fold_take_none hstep]
     rcases h5 with ⟨h7,_⟩|⟨h7,k,ty,u,hk,rfl,h8⟩
     ·cases h7
     simp[eqV,eqOf,qaq,allKnown]
     refine (qvq HX (hg.trans xx) (h8.ev hk)).mono fun r C2 ⟨hB,hr⟩=>?_
     subst hB hr
     simp
     exact Mod.of_ext xx
    ·subst h5
     rw[if_neg (by omega)] at hstep
     simp[eqV,eqOf,e0,e5,e15,e16,e17,ea,-qbq]
     exact⟨d - 1,by omega,xx,i+1,by omega,by omega,by omega,_,hstep,h6⟩
  ·simp at hc
   have hil:i=l.length:=by omega
   rw[hil,List.take_length] at hw
   rw[hw]
   obtain⟨s',c1,c2,c3⟩:=hC.ex
   have l0:=c1.ld 0 (v:=s') rfl
   obtain⟨so,d1,d2,d3⟩:=(h.ext x).ex
   obtain⟨C2,s1,s2,s3⟩:=d1.stM 0 (by simp) (v:=s') c2.sl.cells1.2.2 c2.sl.cells1.1 c2.sl.cells1.2.1
   have hpn:p<A.next:=by obtain⟨_,z,_⟩:=h.ex;exact z.lt
   have hsp:s'.into p=false:=by
    cases hi:s'.into p with
    | false=>rfl
    | true=>have:=(own_into c2 hi).1;have:=x1.next;omega
   simp[e0,e5,AV.addr,l0,s1]
   exact⟨(Mod.of_ext x).trans (s2.mono fun f _ hf=>hf),Nat.le_trans (Nat.min_le_left _ _) h.low,⟨s',s3,Own_mod (c2.mono (Nat.le_trans (Nat.min_le_right _ _) x1.next)) s2 (fun f hf hfp=>by rw[hfp,hsp] at hf;cases hf),hsp⟩,hC.up,hC.few⟩
end
attribute [-simp] List.length_flatten
variable {D:Disp} {G0:Env} {X:Calls'}
theorem seq_spec {A:St} {s:AV} {ps:List AV} {ls:List (List UInt8)} (hs:Sl A 1 s ps) (hp:PartsB A ps ls) (hl:ps.length<2^40) (hf:ls.flatten.length<2^40) :
  Ev D G0 fnsL X 119 [s] A fun r B=>A.Ext B∧OwnB A.next B r ls.flatten:=by
 refine Ev.fnK (fn:=a119) rfl ⟨by simp[a119],by decide⟩ ?_
 unfold a119
 simp[hs.lenV1]
 refine Wp.loopK (fun d E A'=>A.Ext A'∧Env.at E 6=s∧Env.at E 7=.int .i64 ps.length∧∃ (i:Nat) (o:AV),Env.at E 8=.int .i64 i∧i+d=ps.length∧Env.at E 3=o∧AM.Own A.next A' 1 o (bytesV (ls.take i).flatten)) ps.length ?_ ?_
 ·exact⟨St.Ext.refl A,by simp,by simp,0,.slice none 0 0 0 0,by simp,by simp,by simp,by simpa[bytesV] using AM.Own.nil _ _ _⟩
 rintro d E B ⟨xB,e6,e7,i,o,e8,hi,e3,hoB⟩
 simp[e6,e7,e8,qoq,-qjq]
 refine qeq (fun hc=>?_) (fun hc=>?_)
 ·simp at hc
  obtain⟨v,l,hv,hl',hb⟩:=(hp.ext xB).get hc
  obtain⟨p,g1,g2⟩:=(Sl.ext xB hs).at_one hv .i64
  have htk:=take_flatten_succ hl'
  have hle:(ls.take (i+1)).flatten.length≤ls.flatten.length:=by
   conv=>rhs;rw[←List.take_append_drop (i+1) ls,List.flatten_append,List.length_append]
   omega
  rw[htk,List.length_append] at hle
  have ea:=add_one (i:=i) (by omega)
  have hol:=Bs.len hoB.sl
  obtain⟨s2,B2,k1,k2,k3,k4,k5⟩:=qpq (bytes:=1) hoB hb xB.next (by decide) (bytesV_flat _) (by rw[hol,Bs.len hb];omega) (by rw[hol,Bs.len hb];omega)
  simp[-qbq] at ea
  simp[e6,e7,e8,e3,g1,g2,k1,ea,-qbq]
  refine⟨d - 1,by omega,k4.ext xB hoB,i+1,by omega,by omega,?_⟩
  rw[htk,qzq]
  exact k3
 ·simp at hc
  have hil:i=ls.length:=by rw[←hp.length];omega
  rw[hil,List.take_length] at hoB
  simp[e3,hoB.sl.known]
  exact⟨xB,hoB⟩
theorem encYes_spec {A:St} {x:Bool}:Ev D G0 fnsL X 215 [.bool x] A fun r B=>A.Ext B∧OwnB A.next B r [if x=true then 1 else 0]:=by
 refine Ev.fnK (fn:=a215) rfl ⟨by simp[a215],by decide⟩ ?_
 unfold a215
 cases x with
 | true=>
  simp[fillA,splice,Made.value,AV.isBot,AV.cells]
  exact⟨qdq A _ 1,own_built (cs:=[AV.int .u8 1]) A rfl⟩
 | false=>
  simp[fillA,splice,Made.value,AV.isBot,AV.cells]
  exact⟨qdq A _ 1,own_built (cs:=[AV.int .u8 0]) A rfl⟩
theorem encChs_snoc:∀ {l:List ChD} {i:Nat} {x:ChD},l[i]?=some x→encChs (l.take (i+1))=encChs (l.take i)++encCh x
 | [],i,x,h=>by simp at h
 | y::l,0,x,h=>by
  simp at h
  subst h
  simp[encChs]
 | y::l,i+1,x,h=>by
  have ih:=encChs_snoc (l:=l) (i:=i) (x:=x) (by simpa using h)
  simp only[List.take_succ_cons,encChs,ih,List.append_assoc]
section
variable {D:Disp} {G0:Env} {X:Calls'} {A0:St}
theorem encC_spec {A:St} {s:AV} {l:List ChD} (hs:Sl A 3 s (ChR.all l)) (hl:l.length<2^30) (hok:∀ x∈l,okC x=true∧i64ok x.n) :
  Ev D G0 fnsL X 121 [s] A fun r B=>A.Ext B∧OwnB A.next B r (encC l):=by
 refine Ev.fnK (fn:=a121) rfl ⟨by simp[a121],by decide⟩ ?_
 unfold a121
 have hlen:=hs.rec_lenV
 have ec:convV .u64 (.int .i64 (l.length:Int))=some (.int .u64 (l.length:Int)):=by rw[qhq,qAq rfl (show l.length<2^64 by omega)]
 simp[hlen,ec,qaq,allKnown,-qhq]
 refine (encNat_spec (by omega)).mono fun r B ⟨x,ho⟩=>?_
 simp[hlen]
 refine Wp.loopK (fun d E A'=>A.Ext A'∧Env.at E 10=s∧Env.at E 11=.int .i64 l.length∧∃ (i:Nat) (o:AV),Env.at E 12=.int .i64 i∧i+d=l.length∧Env.at E 3=o∧OwnB A.next A' o (natB l.length++encChs (l.take i))) l.length ?_ ?_
 ·exact⟨x,by simp,by simp,0,r,by simp,by simp,by simp,by simpa[encChs] using ho⟩
 rintro d E B1 ⟨x1,e10,e11,i,o,e12,hi,e3,ho1⟩
 simp[e10,e11,e12,qoq,-qjq]
 refine qeq (fun hc=>?_) (fun hc=>?_)
 ·simp at hc
  obtain⟨c,hop⟩:∃ o,l[i]?=some o:=⟨l[i],List.getElem?_eq_getElem hc⟩
  have hmem:c∈l:=List.mem_of_getElem? hop
  obtain⟨ok1,ok2⟩:=hok c hmem
  have ok3:=(okC_iff ok1).1
  obtain⟨p,g1,g2⟩:=(Sl.ext x1 hs).rec_at hop .i64
  obtain⟨B2,k1,x2,w3⟩:=local_put B1 (cs:=[.str [],.int .i64 0,.bool false]) (n:=3) rfl (l:=ChR.cells c) rfl rfl
  have l0:=w3.ld 0 (v:=.str c.key) rfl
  have l2:=w3.ld 2 (v:=.bool c.there) rfl
  have ea:=add_one (i:=i) (by omega)
  simp[e10,e12,g1,g2,Made.value,k1]
  refine Wp.draws ?_
  simp[e3,AV.addr,l0,qiq,allKnown]
  refine (encStr_spec (by omega)).mono fun r1 C1 ⟨y1,o1⟩=>?_
  have l2':=(w3.ext y1).ld 2 (v:=.bool c.there) rfl
  simp[AV.addr,l2',qiq,allKnown,o1.sl.allKnown]
  refine encYes_spec.mono fun r2 C2 ⟨y2,o2⟩=>?_
  have hsl:Sl (C2.make [r1,r2] 1).2 1 (.slice (some (C2.next,0,0)) 0 2 2 0) [r1,r2]:=(qtq C2 (cs:=[r1,r2]) (sz:=1) (n:=2) rfl (Nat.le_refl _) (len:=2) (Nat.le_refl _)).sl
  have x5:=qdq C2 [r1,r2] 1
  have hpp:PartsB (C2.make [r1,r2] 1).2 [r1,r2] [strB c.key,yesB c.there]:=
   ⟨Sl.ext x5 (Sl.ext y2 o1.sl),Sl.ext x5 o2.sl,trivial⟩
  have hfl:[strB c.key,yesB c.there].flatten=strB c.key++yesB c.there:=by simp
  have hn1:=natB_length (n:=c.key.length) (by omega)
  have hlenP:(strB c.key++yesB c.there).length≤26:=by unfold strB yesB;simp;omega
  simp[fillA,o1.sl.notBot,o2.sl.notBot,o1.sl.cells,o2.sl.cells,splice,Made.value,qiq,allKnown]
  have x6:=((x2.trans y1).trans y2).trans x5
  refine (seq_spec hsl hpp (by simp) (by rw[hfl];omega)).mono fun r5 C5 ⟨y5,o5⟩=>?_
  rw[hfl] at o5
  have ho5:=(ho1.ext x6).ext y5
  have hlo:=Bs.len ho5.sl
  have hl5:=Bs.len o5.sl
  have he:=encChs_length (l:=l.take i) fun o ho=>hok o (List.mem_of_mem_take ho)
  have hn9:=natB_length (n:=l.length) (by omega)
  rw[List.length_append] at hlo
  rw[List.length_take] at he
  obtain⟨o6,C6,q1,q2,q3,q4,q5⟩:=qpq (bytes:=1) ho5 o5.sl (Nat.le_trans (x1.trans x6).next y5.next) (by decide) (bytesV_flat _) (by rw[hlo,hl5];omega) (by rw[hlo,hl5];omega)
  rw[←qzq] at q3
  have w3':=(((w3.ext y1).ext y2).ext x5).ext y5
  have hne:o.into B1.next=false:=by
   cases hi:o.into B1.next with
   | false=>rfl
   | true=>have:=(own_into ho1 hi).2;omega
  have w4:Cl C6 B1.next (ChR.cells c):=⟨Nat.lt_of_lt_of_le w3'.lt q4.next,by rw[q4.get _ w3'.lt hne];exact w3'.get⟩
  have l1n:=w4.ld 1 (v:=.int .i64 c.n) rfl
  have l2n:=w4.ld 2 (v:=.bool c.there) rfl
  have hx7:A.Ext C6:=q4.ext ((x1.trans x6).trans y5) ho5
  simp[q1]
  refine⟨?_,?_⟩
  ·simp[InAll,AV.beq,l0,l2,l2',(w3.ext y1).ld 0 (v:=.str c.key) rfl,((w3.ext y1).ext y2).ld 2 (v:=.bool c.there) rfl]
  simp[AV.addr,l2n]
  simp[-qbq] at ea
  have h6l:=Bs.len q3.sl
  rw[List.length_append,List.length_append] at h6l
  refine qeq (fun hb=>?_) (fun hb=>?_)
  ·simp[AV.addr,l1n,qiq,qaq,allKnown]
   refine (encNum_spec ok2).mono fun r7 C7 ⟨y7,o7⟩=>?_
   have hl7:=Bs.len o7.sl
   have hn7:=natB_length (zig_lt ok2)
   have q3':=q3.ext y7
   obtain⟨o8,C8,k1,k2,k3,k4,k5⟩:=qpq (bytes:=1) q3' o7.sl (Nat.le_trans hx7.next y7.next) (by decide) (bytesV_flat _) (by rw[h6l,hl7];unfold numB;omega) (by rw[h6l,hl7];unfold numB;omega)
   rw[←qzq] at k3
   simp[k1,e10,e11,e12,ea,-qbq]
   refine⟨d - 1,by omega,k4.ext (hx7.trans y7) q3',i+1,by omega,by omega,?_⟩
   rw[encChs_snoc hop,show encCh c=strB c.key++(yesB c.there++numB c.n) by unfold encCh;rw[if_pos hb]]
   simpa[OwnB,qzq,List.append_assoc] using k3
  ·simp[e10,e11,e12,ea,-qbq]
   refine⟨d - 1,by omega,hx7,i+1,by omega,by omega,?_⟩
   rw[encChs_snoc hop,show encCh c=strB c.key++yesB c.there by unfold encCh;rw[if_neg (by simp[hb])];simp]
   simpa[OwnB,qzq,List.append_assoc] using q3
 ·simp at hc
  have hil:i=l.length:=by omega
  rw[hil,List.take_length] at ho1
  simp[e3,ho1.sl.known]
  exact⟨x1,ho1⟩
end
theorem gtr_byte1 (c:UInt8):binOf .gtr (byteV c) (.int .u8 1)=some (.bool (decide (1<c.toNat))):=gtr_byte c 1
theorem eql_byte1 (c:UInt8):binOf .eql (byteV c) (.int .u8 1)=some (.bool (decide (c.toNat=1))):=by
 unfold byteV
 rw[qqq]
 congr 2
 rw[decide_eq_decide]
 omega
section
variable {D:Disp} {G0:Env} {X:Calls'} {A0:St}
theorem inYes_spec {lo:Nat} {A:St} {p:Nat} {b:List UInt8} {st:RdS} (h:InR A0 lo A p b st) :
  Ev D G0 fnsL X 275 [.ptr (some (p,0,0))] A fun r B=>r=.bool (yesS st).1∧Mod (fun f=>f=p) A B∧InR A0 lo B p b (yesS st).2:=by
 refine Ev.fnK (fn:=a275) rfl ⟨by simp[a275],by decide⟩ ?_
 unfold a275
 obtain⟨s,e,i,hC,he⟩:=h.ex
 cases st with
 | none=>
  obtain⟨t,v,c,rfl,_⟩:=he
  simp[qaq,allKnown]
  refine (bad_spec hC (.inr ⟨t,_,rfl⟩)).mono fun r B ⟨hB,hr⟩=>?_
  subst hB hr
  simp[yesS]
  exact⟨Mod.refl A,h⟩
 | some l=>
  obtain⟨rfl,hl⟩:=he
  simp[qaq,allKnown]
  refine (bad_spec hC (.inl rfl)).mono fun r B ⟨hB,hr⟩=>?_
  subst hB hr
  have l1:=hC.cl.ld 1 (v:=.int .i64 i) rfl
  simp[AV.addr,l1,qaq,allKnown]
  refine (raw_spec hC (n:=1) (by decide)).mono fun r B hr=>?_
  rcases hr with ⟨h1,hB,hr⟩|⟨h1,m1,hC1,s',hr,hs',hoff⟩
  ·subst hB hr
   have hl0:l=[]:=by rw[hl];exact List.drop_eq_nil_of_le (by omega)
   subst hl0
   simp[yesS,unOf,pickV,qaq,allKnown]
   refine (fail_spec hC hC.le (by decide)).mono fun r B2 ⟨hr,m2,v,hC2,hF⟩=>?_
   subst hr
   simp
   exact⟨m2,glob_mod h.glob h.base m2,h.base,h.low,Nat.le_trans h.top m2.next,s,_,i,hC2,_,v,6,rfl,by decide,hF.mono h.top⟩
  ·subst hr
   have g1:=glob_mod h.glob h.base m1
   have hib:i<b.length:=by have:=hC1.le;omega
   obtain⟨c,l',hcl⟩:∃ c l',l=c::l':=by
    cases hl':l with
    | nil=>rw[hl'] at hl;have:=congrArg List.length hl;simp at this;omega
    | cons c l'=>exact⟨c,l',rfl⟩
   have hbt:(b.drop i).take 1=[c]:=by rw[←hl,hcl];rfl
   rw[hbt] at hs'
   obtain⟨q,q1,q2⟩:=hs'.at_one (j:=0) (v:=byteV c) rfl .i64
   have hd:l'=b.drop (i+1):=by
    have:(b.drop i).drop 1=l':=by rw[←hl,hcl];rfl
    rw[List.drop_drop] at this
    exact this.symm
   have hk1:=hs'.known
   have q1':atSliceV 1 s' (.int .i64 0)=some (.ptr (some q)):=q1
   simp[unOf,pickV,q1',q2,gtr_byte1,-qfq]
   rw[hcl,show yesS (some (c::l'))=if 1<c.toNat then (false,none) else (decide (c.toNat=1),some l') from rfl]
   refine qeq (fun hb=>?_) (fun hb=>?_)
   ·simp at hb
    rw[if_pos hb]
    simp[qaq,allKnown]
    refine (fail_spec hC1 hC.le (by decide)).mono fun r B2 ⟨hr,m2,v,hC2,hF⟩=>?_
    subst hr
    simp
    exact⟨m1.trans m2,glob_mod g1 h.base m2,h.base,h.low,Nat.le_trans h.top (Nat.le_trans m1.next m2.next),s,_,i,hC2,_,v,6,rfl,by decide,hF.mono (Nat.le_trans h.top m1.next)⟩
   ·simp at hb
    rw[if_neg (by omega)]
    simp[q1',q2,eql_byte1,-qqq]
    exact⟨m1,g1,h.base,h.low,Nat.le_trans h.top m1.next,s,.nilIface,i+1,hC1,rfl,hd⟩
end
end Go.Proofs.YtlaoookdegmnnaaGreatDoor
namespace Go.AM
theorem InR.ext' {A0:St} {lo:Nat} {A B:St} {p:Nat} {b:List UInt8} {st:RdS} (h:Go.Proofs.YtlaoookdegmnnaaGreatDoor.InR A0 lo A p b st) (x:A.Ext B):Go.Proofs.YtlaoookdegmnnaaGreatDoor.InR A0 lo B p b st:=h.mod (Mod.of_ext (W:=fun _=>False) x) fun _ hf=>hf.elim
end Go.AM
namespace Go.Proofs.YtlaoookdegmnnaaGreatDoor
open Go.AM
theorem chsS_none (n:Nat):chsS n none=([],none):=by cases n<;>rfl
theorem yesS_true {s:RdS} (h:(yesS s).1=true):∃ t,(yesS s).2=some t:=by
 cases s with
 | none=>cases h
 | some u=>
  cases u with
  | nil=>cases h
  | cons w u=>
   rw[show yesS (some (w::u))=if 1<w.toNat then (false,none) else (decide (w.toNat=1),some u) from rfl] at h ⊢
   split at h
   ·cases h
   ·rename_i hw
    rw[if_neg hw]
    exact⟨_,rfl⟩
section
variable {D:Disp} {G0:Env} {X:Calls'} {A0:St}
theorem decC_spec (HX:RowsX X A0) {A:St} (h0:A0.Ext A) {s:AV} {b:List UInt8} (hs:Sl A 1 s (bytesV b)) (hb:b.length<2^40) :
  Ev D G0 fnsL X 169 [s] A fun r B=>A.Ext B∧match decC b with
   | some l=>∃ v,r=.tuple [v,.int .i64 0]∧AM.Own A.next B 3 v (ChR.all l)
   | none=>r=.tuple [.slice none 0 0 0 0,.int .i64 6]:=by
 refine Ev.fnK (fn:=a169) rfl ⟨by simp[a169],by decide⟩ ?_
 unfold a169
 simp[qaq,allKnown,hs.allKnown]
 refine (of_spec hs hb h0).mono fun r B ⟨hr,x1,hn1,hi1⟩=>?_
 subst hr
 simp[qaq,allKnown]
 refine (inNat_spec hi1).mono fun r B2 ⟨hr,m2,hi2⟩=>?_
 subst hr
 have x2:A.Ext B2:=⟨Nat.le_trans x1.next m2.next,fun f hf=>(m2.get f (Nat.lt_of_lt_of_le hf x1.next) (by omega)).trans (x1.get f hf)⟩
 have hnlt:=natS_lt (some b)
 have hdec:decC b=if 4096<(natS (some b)).1 then none else match chsS (natS (some b)).1 (natS (some b)).2 with
  | (l,some [])=>some l
  | _=>none:=rfl
 generalize hN:(natS (some b)).1=N at *
 generalize (natS (some b)).2=st1 at *
 have eg:binOf .gtr (.int .u64 (N:Int)) (.int .u64 4096)=some (.bool (decide (4096<N))):=by rw[qfq];simp;omega
 simp[eg,-qfq]
 refine qeq (fun hc=>?_) (fun hc=>?_)
 ·simp at hc
  rw[if_pos hc] at hdec
  simp[hdec]
  exact x2
 ·simp at hc
  rw[if_neg (by omega)] at hdec
  simp
  refine Wp.loopK (fun d E A'=>A.Ext A'∧Env.at E 4=.ptr (some (A.next,0,0))∧Env.at E 5=.int .u64 N∧∃ (i:Nat) (v:AV) (l:List ChD),Env.at E 7=.int .u64 i∧i+d=N∧Env.at E 6=v∧AM.Own (A.next+1) A' 3 v (ChR.all l)∧l.length=i ∧
   ∃ st,InR A0 (A.next+1) A' A.next b st∧chsS N st1=(match st with|some t=>(l++(chsS (N - i) (some t)).1,(chsS (N - i) (some t)).2)|none=>((chsS N st1).1,none))) N ?_ ?_
  ·refine⟨x2,by simp,by simp,0,.slice none 0 0 0 0,[],by simp,by simp,by simp,by simpa[Rec.all] using AM.Own.nil _ _ _,rfl,st1,hi2,?_⟩
   cases st1 with
   | none=>simp[chsS_none]
   | some t=>simp
  rintro d E A1 ⟨x3,e4,e5,i,v,l,e7,hid,e6,hv,hli,st,hi,hst⟩
  have el:=qoq .u64 i N
  by_cases hiN:i<N
  ·rw[decide_eq_true hiN] at el
   simp[e4,e5,e7,el,qaq,allKnown,-qjq]
   refine (err_spec HX hi).mono fun r B3 ⟨hB,c,hr,hc'⟩=>?_
   subst hB hr
   cases st with
   | none=>
    simp at hc'
    have hce:binOf .eql (.int .i64 c) (.int .i64 0)=some (.bool false):=by rw[qqq];simp[hc']
    simp[hce,pickV,e4,qaq,allKnown,-qqq]
    refine (end_spec HX hi).mono fun r B3 ⟨m,c2,hr,hc2⟩=>?_
    subst hr
    simp at hc2
    have hd:decC b=none:=by
     rw[hdec,hst]
    simp[hc2,hd]
    exact⟨Nat.le_trans x3.next m.next,fun f hf=>(m.get f (Nat.lt_of_lt_of_le hf x3.next) (by omega)).trans (x3.get f hf)⟩
   | some t=>
    simp at hc'
    have hce:binOf .eql (.int .i64 c) (.int .i64 0)=some (.bool true):=by rw[qqq];simp[hc']
    simp[hce,pickV,e4,qaq,allKnown,-qqq]
    have hA1:A.next<A1.next:=Nat.lt_of_lt_of_le hi.low hi.top
    have hi':=hi.raise (lo':=A1.next) hA1 (Nat.le_refl _)
    refine (inStr_spec hi' (most:=16) (by decide)).mono fun r C1 ⟨hr,n1,j1⟩=>?_
    subst hr
    generalize hky:(strS 16 (some t)).1=key at *
    generalize hs1:(strS 16 (some t)).2=s1 at *
    simp[e4,qaq,allKnown]
    refine (inYes_spec j1).mono fun r C2 ⟨hr,n2,j2⟩=>?_
    subst hr
    generalize hyes:(yesS s1).1=yes at *
    generalize hs2:(yesS s1).2=s2 at *
    have n12:=n1.trans n2
    obtain⟨C3,k1,k2,k3⟩:=local_put C2 (cs:=[.str [],.int .i64 0,.bool false]) (n:=3) rfl (l:=[.str key,.int .i64 0,.bool yes]) rfl rfl
    have l2:=k3.ld 2 (v:=.bool yes) rfl
    have j3:=InR.ext' j2 k2
    have hC23:=k2.next
    have hA12:=n12.next
    have hF:C2.next<C3.next:=k3.lt
    simp[fillA,AV.isBot,AV.cells,splice,aggV,Made.value,k1,AV.addr,l2]
    have hvl:v.slen=l.length:=hv.sl.rec_len
    have app:∀ (C:St) (lo:Nat) (x:ChD) (s':RdS),A1.next≤lo→InR A0 lo C A.next b s'→Mod (fun f=>f=A.next∨A1.next≤f) A1 C →
      ∃ s'' C7,appendV (C.make (ChR.cells x) 3).2 false 3 32 v (.slice (some (C.next,0,0)) 0 1 1 0)=some (s'',C7)∧AM.Own (A.next+1) C7 3 s'' (ChR.all (l++[x]))∧InR A0 (A.next+1) C7 A.next b s'∧A.Ext C7:=fun C lo x s' hlo j mC=>by
     have hv4:AM.Own (A.next+1) C 3 v (ChR.all l):=Own_mod hv mC fun f hf hw=>by have:=own_into hv hf;omega
     have x6:=qdq C (ChR.cells x) 3
     have hv6:=hv4.ext x6
     have hnC:A.next+1≤(C.make (ChR.cells x) 3).2.next:=Nat.le_trans hA1 (Nat.le_trans mC.next x6.next)
     obtain⟨s'',C7,g1,g2,g3,g4,g5⟩:=qpq (bytes:=32) hv6 (own_rec ChR C x).sl hnC (by decide) (ChR.allFlat _) (by rw[hvl,qnq];omega) (by rw[hvl,qnq];omega)
     rw[←ChR.append] at g3
     have m7:Mod (fun f=>v.into f=true) (C.make (ChR.cells x) 3).2 C7:=⟨g4.next,fun f hf hw=>g4.get f hf (by simpa using hw)⟩
     have j7:=((InR.ext' j x6).mod m7 fun f hf=>by have:=own_into hv hf;exact⟨by omega,by omega⟩).lower (lo':=A.next+1) (Nat.lt_succ_self _) (by omega)
     refine⟨s'',C7,g1,g3,j7,Nat.le_trans x3.next (Nat.le_trans mC.next (Nat.le_trans x6.next g4.next)),fun f hf=>?_⟩
     have h1:=Nat.lt_of_lt_of_le hf x3.next
     have h4:=Nat.lt_of_lt_of_le h1 mC.next
     have h6:=Nat.lt_of_lt_of_le h4 x6.next
     rw[m7.get f h6 (fun hw=>by have:=own_into hv hw;omega),x6.get f h4,mC.get f h1 (by omega),x3.get f hf]
    have e25:binOf .add (.int .u64 (i:Int)) (.int .u64 1)=some (.int .u64 ((i+1:Nat):Int)):=by
     rw[qbq,show (i:Int)+1=((i+1:Nat):Int) by omega,qAq rfl (show i+1<2^64 by omega)]
    have hNi:N - i=(N - (i+1))+1:=by omega
    have m3:Mod (fun f=>f=A.next∨A1.next≤f) A1 C3:=(n12.mono fun f _ hf=>.inl hf).trans (Mod.of_ext k2)
    refine qeq (fun hy=>?_) (fun hy=>?_)
    ·rw[hy] at hyes
     obtain⟨t2,ht2⟩:∃ t2,s2=some t2:=by
      rw[←hs2]
      exact yesS_true (by rw[hyes])
     subst ht2
     have j3':=j3.raise (lo':=C3.next) (by omega) (Nat.le_refl _)
     simp[e4,qaq,allKnown]
     refine (inNum_spec j3').mono fun r C4 ⟨hr,n4,j4⟩=>?_
     subst hr
     generalize hn:(numS (some t2)).1=n at *
     generalize hs3:(numS (some t2)).2=s3 at *
     have k4:Cl C4 C2.next [.str key,.int .i64 0,.bool yes]:=k3.mod n4 (by omega)
     obtain⟨C5,w1,w2,w3⟩:=k4.stM 1 (by simp) (v:=.int .i64 n) rfl rfl rfl
     have j5:=j4.mod w2 fun f hf=>by subst hf;exact⟨by omega,by omega⟩
     have m5:Mod (fun f=>f=A.next∨A1.next≤f) A1 C5:=(m3.trans (n4.mono fun f _ hf=>.inl hf)).trans (w2.mono fun f _ hf=>.inr (by omega))
     obtain⟨s'',C7,g1,g3,j7,x7⟩:=app C5 C3.next ⟨key,n,yes⟩ s3 (by omega) j5 m5
     have hld:loadV C5 3 true (.ptr (some (C2.next,0,0)))=some (.agg (ChR.cells ⟨key,n,yes⟩)):=by
      have:=w3.lda 0 3 (by simp)
      rw[this]
      rfl
     have hch:chS (some t)=(⟨key,n,yes⟩,s3):=by
      unfold chS
      simp only[hky,hs1,hyes,hs2,if_true,hn,hs3]
      rw[hy]
     simp[AV.addr,w1,e4,e6,e7,hld,fillA,AV.isBot,AV.cells,splice,Made.value,ChR.len,g1,e25,-qbq]
     refine⟨d - 1,by omega,x7,e5,i+1,by omega,by omega,_,g3,by simp[hli],s3,j7,?_⟩
     rw[hst,hNi]
     simp only[chsS,hch]
     cases s3 with
     | none=>simp[chsS_none]
     | some u=>simp
    ·obtain⟨s'',C7,g1,g3,j7,x7⟩:=app C3 A1.next ⟨key,0,yes⟩ s2 (by omega) j3 m3
     have hld:loadV C3 3 true (.ptr (some (C2.next,0,0)))=some (.agg (ChR.cells ⟨key,0,yes⟩)):=by
      have:=k3.lda 0 3 (by simp)
      rw[this]
      rfl
     have hch:chS (some t)=(⟨key,0,yes⟩,s2):=by
      unfold chS
      simp only[hky,hs1,hyes,hs2,hy,Bool.false_eq_true,if_false]
     simp[AV.addr,e4,e6,e7,hld,fillA,AV.isBot,AV.cells,splice,Made.value,ChR.len,g1,e25,-qbq]
     refine⟨d - 1,by omega,x7,e5,i+1,by omega,by omega,_,g3,by simp[hli],s2,j7,?_⟩
     rw[hst,hNi]
     simp only[chsS,hch]
     cases s2 with
     | none=>simp[chsS_none]
     | some u=>simp
  ·rw[decide_eq_false hiN] at el
   simp[e4,e5,e7,el,pickV,qaq,allKnown,-qjq]
   refine (end_spec HX hi).mono fun r B3 ⟨m,c2,hr,hc2⟩=>?_
   subst hr
   have xB:A.Ext B3:=⟨Nat.le_trans x3.next m.next,fun f hf=>(m.get f (Nat.lt_of_lt_of_le hf x3.next) (by omega)).trans (x3.get f hf)⟩
   obtain rfl:i=N:=by omega
   cases st with
   | none=>
    simp at hc2
    have hd:decC b=none:=by rw[hdec,hst]
    simp[hc2,hd]
    exact xB
   | some t=>
    rw[Nat.sub_self] at hst
    simp only[chsS,List.append_nil] at hst
    rw[hst] at hdec
    cases t with
    | nil=>
     simp at hc2
     have hd:decC b=some l:=by rw[hdec]
     have hv2:=Own_mod hv m fun f hf hw=>by have:=own_into hv hf;omega
     simp[hc2,hd,e6,hv2.sl.known]
     exact⟨xB,hv2.mono (Nat.le_succ _)⟩
    | cons u t=>
     simp at hc2
     have hd:decC b=none:=by rw[hdec]
     simp[hc2,hd]
     exact xB
end
structure HeD where
 jd:JoD
 idx:Idx
 all:Int
 mark:Int
 recs:Int
structure HpOk (d:HeD):Prop where
 idx:IdxOk d.idx
 keys:∀ k∈keysA d.idx,k.length≤16
 nums:∀ k e,assoc k d.idx=some e→i64ok e.c.n
 few:d.idx.length≤1000000
 rows:(rowsI d.idx).length≤256
 all:0≤d.all∧d.all≤1099511627776
 mark:0≤d.mark∧d.mark≤1073741824
 recs:0≤d.recs∧d.recs≤1099511627776
def entR (v:AV) (e:EnD):Prop:=v=.agg [.str e.c.key,.int .i64 e.c.n,.bool e.c.there,.int .i64 e.no]
structure HpC (b:Nat) (K:Nat→Nat) (A:St) (h j p m:Nat) (d:HeD):Prop where
 jo:JoC b K A j p m d.jd
 ex:∃ mi l c,Cl A h [.ptr (some (j,0,0)),.map (some mi),.int .i64 d.all,.int .i64 d.mark,.int .i64 d.recs]∧MapE AV.str A mi l c∧ValsR entR (valsA l) d.idx∧K mi=b+3∧h≠mi
 kh:K h=b+3
 ok:HpOk d
def HW (b:Nat) (K:Nat→Nat):Nat→Prop:=fun f=>K f=b+1∨K f=b+2∨K f=b+3
theorem HW.ne0 {b:Nat} {K:Nat→Nat} {f:Nat} (h:HW b K f):K f≠0:=by rcases h with h|h|h<;>omega
theorem JW.hw {b:Nat} {K:Nat→Nat} {f:Nat} (h:JW b K f):HW b K f:=by
 rcases h with h|h
 ·exact .inl h
 ·exact .inr (.inl h)
section
variable {b:Nat} {K:Nat→Nat} {A B:St} {h j p m:Nat} {d:HeD}
theorem HpC.mod {W:Nat→Prop} (H:HpC b K A h j p m d) (x:Mod W A B) (hw:∀ f,W f→K f≠0∧K f≠b+1∧K f≠b+2∧K f≠b+3):HpC b K B h j p m d:=by
 obtain⟨mi,l,c,h1,h2,h3,h4,h5⟩:=H.ex
 exact⟨H.jo.mod x fun f hW=>⟨(hw f hW).1,(hw f hW).2.1,(hw f hW).2.2.1⟩,⟨mi,l,c,h1.mod x (fun hW=>(hw _ hW).2.2.2 H.kh),h2.mod x (fun hW=>(hw _ hW).2.2.2 h4),h3,h4,h5⟩,H.kh,H.ok⟩
theorem HpC.ext (H:HpC b K A h j p m d) (x:A.Ext B):HpC b K B h j p m d:=H.mod (W:=fun _=>False) (Mod.of_ext x) fun _ hf=>hf.elim
theorem HpC.up {K':Nat→Nat} (H:HpC b K A h j p m d) (u:KUp K K' A):HpC b K' A h j p m d:=by
 obtain⟨mi,l,c,h1,h2,h3,h4,h5⟩:=H.ex
 exact⟨H.jo.up u,⟨mi,l,c,h1,h2,h3,by rw[u _ h2.lt];exact h4,h5⟩,by rw[u _ h1.lt];exact H.kh,H.ok⟩
end
def RowsK (X:Calls'):Prop:=∀ {A:St} {pf f:Nat} {l:List (List UInt8 × AV × Nat)} {c:Nat},Cl A pf [.map (some f)]→MapE AV.str A f l c→l.length≤1000000→(∀ k∈keysA l,k.length≤1000000) →
 ∃ r B,X 156 [.func (.func 261) [] [.ptr (some (pf,0,0))]] A=some (r,B)∧A.Ext B∧Sl B 1 r ((sortB leS (keysA l)).map AV.str)
section
variable {D:Disp} {G0:Env} {X:Calls'} {A0:St}
theorem keysF_spec {A:St} {f:Nat}:Ev D G0 fnsL X 157 [.map (some f)] A fun r B=>A.Ext B∧∃ pf,r=.func (.func 261) [] [.ptr (some (pf,0,0))]∧Cl B pf [.map (some f)]:=by
 refine Ev.fnK (fn:=a157) rfl ⟨by simp[a157],by decide⟩ ?_
 unfold a157
 simp[boxV,Made.value,pureOf,evs_cons,evs_nil,allKnown]
 exact⟨qdq A _ 1,Cl.make A _⟩
theorem liveK_some {x:Idx} {k:List UInt8} {e:EnD} (h:assoc k x=some e):liveK x k=if e.c.there then some e.c else none:=by unfold liveK;rw[h]
theorem changes_spec (HK:RowsK X) {b:Nat} {K:Nat→Nat} {A:St} {h j p m:Nat} {d:HeD} (H:HpC b K A h j p m d) :
  Ev D G0 fnsL X 76 [.ptr (some (h,0,0))] A fun r B=>A.Ext B∧AM.Own A.next B 3 r (ChR.all (liveL d.idx)):=by
 refine Ev.fnK (fn:=a76) rfl ⟨by simp[a76],by decide⟩ ?_
 unfold a76
 obtain⟨mi,l,c,h1,h2,h3,h4,h5⟩:=H.ex
 have l1:=h1.ld 1 (v:=.map (some mi)) rfl
 simp[AV.addr,l1,qaq,allKnown]
 refine keysF_spec.mono fun r B ⟨x1,pf,hr,hpf⟩=>?_
 subst hr
 simp[qaq,allKnown]
 have hk:=h3.keys
 have hka:keysA l=keysA d.idx:=by
  rw[←hk]
  simp[keysA,valsA]
 have hll:l.length=d.idx.length:=by
  have:=h3.length
  simpa[valsA] using this
 obtain⟨ks,B2,g1,x2,hks⟩:=HK hpf (h2.ext x1) (by rw[hll];exact H.ok.few) (by rw[hka];exact fun k hk=>by have:=H.ok.keys k hk;omega)
 rw[hka] at hks
 refine Ev.ext rfl g1 ?_
 have x12:=x1.trans x2
 obtain⟨S,hS⟩:∃ S,S=sortB leS (keysA d.idx):=⟨_,rfl⟩
 have hlive:liveL d.idx=S.filterMap (liveK d.idx):=by rw[hS];rfl
 have hSmem:∀ k∈S,k∈keysA d.idx:=fun k hk=>by rw[hS] at hk;exact (qrq (le:=leS) (keysA d.idx)).mem_iff.1 hk
 have hSlen:S.length≤1000000:=by
  rw[hS,(qrq (le:=leS) (keysA d.idx)).length_eq]
  have:=H.ok.few
  simpa[keysA] using this
 rw[hlive]
 rw[←hS] at hks
 have hlen:=hks.lenV1
 rw[List.length_map] at hlen
 simp[hlen]
 refine Wp.loopK (fun q E A'=>B2.Ext A'∧Env.at E 0=.ptr (some (h,0,0))∧Env.at E 12=ks∧Env.at E 13=.int .i64 S.length∧∃ (i:Nat) (o:AV),Env.at E 14=.int .i64 i∧i≤S.length∧i+q=S.length∧Env.at E 3=o∧AM.Own B2.next A' 3 o (ChR.all ((S.take i).filterMap (liveK d.idx)))) S.length ?_ ?_
 ·exact⟨St.Ext.refl _,by simp,by simp,by simp,0,.slice none 0 0 0 0,by simp,Nat.zero_le _,by simp,by simp,.nil _ _ _⟩
 rintro q E A' ⟨x',e0,e12,e13,i,o,e14,q1,q2,e3,ho⟩
 have hs:=Sl.ext x' hks
 have x:=x12.trans x'
 simp[e13,e14,qoq,-qjq]
 refine qeq (fun hc=>?_) (fun hc=>?_)
 ·simp at hc
  have hgk:S[i]?=some S[i]:=List.getElem?_eq_getElem hc
  obtain⟨p',g1,g2⟩:=hs.at_one (j:=i) (v:=.str S[i]) (by rw[List.getElem?_map,hgk];rfl) .i64
  have h1':=h1.ext x
  have h2':=h2.ext x
  have l1':=h1'.ld 1 (v:=.map (some mi)) rfl
  have hin:=hSmem S[i] (List.getElem_mem _)
  obtain⟨e,he⟩:∃ e,assoc S[i] d.idx=some e:=by
   have:=assoc_some_iff.2 hin
   cases ha:assoc S[i] d.idx with
   | none=>rw[ha] at this;cases this
   | some e=>exact⟨e,rfl⟩
  have ha:=h3.assoc (k:=S[i])
  obtain⟨v,hv⟩:∃ v,assoc S[i] (valsA l)=some v:=by
   cases hv:assoc S[i] (valsA l) with
   | none=>rw[ha.2 hv] at he;cases he
   | some v=>exact⟨v,rfl⟩
  obtain⟨e',he',hR⟩:=ha.1 v hv
  rw[he] at he'
  cases he'
  unfold entR at hR
  subst hR
  have hlk:∀ (E:Env) (mp y:Operand),ev E mp=.map (some mi)→ev E y=.str S[i]→readOf E A' (.lookup .str (.agg [.str [],.int .i64 0,.bool false,.int .i64 0]) false mp y)=some (.agg [.str e.c.key,.int .i64 e.c.n,.bool e.c.there,.int .i64 e.no]):=fun E mp y hm hy=>by rw[h2'.lookup keyEnc_str hm hy _ false,hv];rfl
  obtain⟨C,w1,w2,w3⟩:=local_put A' (cs:=[.str [],.int .i64 0,.bool false,.int .i64 0]) (n:=4) rfl (l:=[.str e.c.key,.int .i64 e.c.n,.bool e.c.there,.int .i64 e.no]) rfl rfl
  have l2:=w3.ld 2 (v:=.bool e.c.there) rfl
  have l3:loadV C 3 true (.ptr (some (A'.next,0,0)))=some (.agg (ChR.cells e.c)):=by
   have:=w3.lda 0 3 (by simp)
   rw[this]
   rfl
  have ea:=add_one (i:=i) (by omega)
  simp[-qbq] at ea
  have htk:S.take (i+1)=S.take i++[S[i]]:=by rw[List.take_add_one,hgk];rfl
  simp[e0,e3,e12,e13,e14,g1,g2,AV.addr,l1',Made.value,-qbq]
  rw[hlk _ _ _ (by simp) (by simp)]
  simp[Made.value,w1,AV.addr,l2,-qbq]
  refine qeq (fun ht=>?_) (fun ht=>?_)
  ·have hC:=ho.ext w2
   have hol:o.slen=((S.take i).filterMap (liveK d.idx)).length:=ho.sl.rec_len
   have hfl:=List.length_filterMap_le (liveK d.idx) (S.take i)
   rw[List.length_take] at hfl
   have xm:=qdq C (ChR.cells e.c) 3
   obtain⟨o',C2,k1,k2,k3⟩:=append_rec (bytes:=32) hC (x'.trans w2) (by omega) (by omega) e.c
   simp[AV.addr,l3,e0,e3,e12,e13,e14,fillA,splice,AV.isBot,Made.value,ChR.len,k1,ea,-qbq]
   refine⟨q - 1,by omega,k3,i+1,by omega,by omega,by omega,?_⟩
   rw[htk,List.filterMap_append]
   simp[liveK_some he,ht]
   exact k2
  ·simp[e0,e3,e12,e13,e14,ea,-qbq]
   refine⟨q - 1,by omega,x'.trans w2,i+1,by omega,by omega,by omega,?_⟩
   rw[htk,List.filterMap_append]
   simp[liveK_some he,ht]
   exact ho.ext w2
 ·simp at hc
  have hil:i=S.length:=by omega
  rw[hil,List.take_length] at ho
  simp[e3,ho.sl.known]
  exact⟨x,ho.mono x12.next⟩
end
theorem rows_key {x:Idx} (hi:IdxOk x) (hk:∀ k∈keysA x,k.length≤16):∀ r∈rowsI x,r.key.length≤16:=fun r hr=>by
 obtain⟨e,he,_,_⟩:=(rowsI_mem hi).1 hr
 exact hk _ (assoc_some_iff.1 (by rw[he];rfl))
section
variable {D:Disp} {G0:Env} {X:Calls'} {A0:St}
theorem hrows_spec (HK:RowsK X) {b:Nat} {K:Nat→Nat} {A:St} {h j p m:Nat} {d:HeD} (H:HpC b K A h j p m d) :
  Ev D G0 fnsL X 27 [.ptr (some (h,0,0))] A fun r B=>A.Ext B∧AM.Own A.next B 2 r (RowR.all (rowsI d.idx)):=by
 refine Ev.fnK (fn:=a27) rfl ⟨by simp[a27],by decide⟩ ?_
 unfold a27
 simp[eqV,eqOf,qaq,allKnown]
 refine (changes_spec HK H).mono fun s B ⟨x1,hs⟩=>?_
 have hrl:rowsI d.idx=(liveL d.idx).map ChD.row:=rfl
 have hrow:=H.ok.rows
 rw[hrl] at hrow ⊢
 rw[List.length_map] at hrow
 generalize liveL d.idx=L at *
 have hlen:=hs.sl.rec_lenV
 simp[hlen]
 refine Wp.loopK (fun q E A'=>B.Ext A'∧Env.at E 9=s∧Env.at E 10=.int .i64 L.length∧∃ (i:Nat) (o:AV),Env.at E 11=.int .i64 i∧i≤L.length∧i+q=L.length∧Env.at E 3=o∧AM.Own B.next A' 2 o (RowR.all ((L.take i).map ChD.row))) L.length ?_ ?_
 ·exact⟨St.Ext.refl _,by simp,by simp,0,.slice none 0 0 0 0,by simp,Nat.zero_le _,by simp,by simp,.nil _ _ _⟩
 rintro q E A' ⟨x,e9,e10,i,o,e11,q1,q2,e3,ho⟩
 simp[e10,e11,qoq,-qjq]
 refine qeq (fun hc=>?_) (fun hc=>?_)
 ·simp at hc
  have hg:L[i]?=some L[i]:=List.getElem?_eq_getElem hc
  obtain⟨p',g1,g2⟩:=(Sl.ext x hs.sl).rec_at hg .i64
  obtain⟨C,w1,w2,w3⟩:=local_put A' (cs:=[.str [],.int .i64 0,.bool false]) (n:=3) rfl (l:=ChR.cells L[i]) rfl rfl
  have l0:=w3.ld 0 (v:=.str L[i].key) rfl
  have l1:=w3.ld 1 (v:=.int .i64 L[i].n) rfl
  have ea:=add_one (i:=i) (by omega)
  simp[-qbq] at ea
  have htk:L.take (i+1)=L.take i++[L[i]]:=by rw[List.take_add_one,hg];rfl
  have hC:=ho.ext w2
  have hml:((L.take i).map ChD.row).length=i:=by simp;omega
  obtain⟨o',C2,k1,k2,k3⟩:=append_rec (bytes:=24) hC (x.trans w2) (by omega) (by omega) L[i].row
  have k1':appendV (C.make [.str L[i].key,.int .i64 L[i].n] 2).2 false 2 24 o (.slice (some (C.next,0,0)) 0 1 1 0)=some (o',C2):=k1
  simp[e9,e10,e11,e3,g1,g2,Made.value,w1,AV.addr,l0,l1,fillA,splice,AV.isBot,AV.cells,aggV,k1',ea,-qbq]
  refine⟨q - 1,by omega,k3,i+1,by omega,by omega,by omega,?_⟩
  rw[←List.map_take,htk,List.map_append]
  exact k2
 ·simp at hc
  have hil:i=L.length:=by omega
  rw[hil,List.take_length] at ho
  simp[e3,ho.sl.known]
  exact⟨x1.trans x,ho.mono x1.next⟩
theorem newSelf {d:HeD} (ok:HpOk d):newL (rowsI d.idx)=rowsI d.idx:=new_self (rowsI_up ok.idx) ok.rows (rows_key ok.idx ok.keys)
theorem tryC_spec (HX:RowsX X A0) (HC:RowsC X) (HI:RowsI X) {A:St} {rows:List RowD} (hn:newL rows=rows) (hr:rows.length≤256) {v s:AV} (hv:Sl A 2 v (RowR.all rows)) {l:List ChD} (hs:Sl A 3 s (ChR.all l)) (hl:l.length<2^40) (hg:A0.Ext A) {Q:AV→St→Prop}
  (k:∀ q B,A.Ext B→Ev D G0 fnsL X 152 [.ptr (some (q,0,0)),s] B (fun r C=>A.Ext C∧r=.int .i64 (applyL rows l).1)→Q (.ptr (some (q,0,0))) B):Ev D G0 fnsL X 108 [v] A Q:=by
 refine (newC_spec HC HI hv (by omega)).mono fun r B ⟨x1,q,hrq,hq⟩=>?_
 subst hrq
 refine k q B x1 ?_
 rw[hn] at hq
 refine (applyC_spec HX HC HI hq (Sl.ext x1 hs) hl (hg.trans x1)).mono fun r C ⟨h1,h2,_⟩=>?_
 have hlow:=hq.low
 exact⟨(((Mod.of_ext (W:=fun f=>f=q) x1).trans h2).mono (W':=fun _=>False) (fun f hf hW=>by subst hW;omega)).ext,h1⟩
theorem hfits_spec (HX:RowsX X A0) (HC:RowsC X) (HI:RowsI X) (HK:RowsK X) {b:Nat} {K:Nat→Nat} {A:St} {h j p m:Nat} {d:HeD} (H:HpC b K A h j p m d) {s:AV} {l:List ChD} (hs:Sl A 3 s (ChR.all l)) (hl:l.length<2^40) (hg:A0.Ext A) :
  Ev D G0 fnsL X 171 [.ptr (some (h,0,0)),s] A fun r B=>A.Ext B∧r=.bool (decide ((applyL (rowsI d.idx) l).1=0)):=by
 refine Ev.fnK (fn:=a171) rfl ⟨by simp[a171],by decide⟩ ?_
 unfold a171
 simp[qaq,allKnown]
 refine (hrows_spec HK H).mono fun v B ⟨x1,hv⟩=>?_
 simp[qaq,allKnown,hv.sl.allKnown]
 refine tryC_spec HX HC HI (newSelf H.ok) H.ok.rows hv.sl (Sl.ext x1 hs) hl (hg.trans x1) fun q C x2 hap=>?_
 simp[qaq,allKnown,(Sl.ext x1 hs).allKnown]
 refine hap.mono fun r C2 ⟨x3,hr⟩=>?_
 subst hr
 simp
 exact x1.trans x3
theorem bytes_spec {A:St} {s:AV} {l:List ChD} {mark:Nat} (hm:mark≤1073741824) (hs:Sl A 3 s (ChR.all l)) (hl:l.length<2^30) (hok:∀ x∈l,okC x=true∧i64ok x.n) :
  Ev D G0 fnsL X 69 [.int .i64 mark,s] A fun r B=>A.Ext B∧OwnB A.next B r (recB mark l):=by
 refine Ev.fnK (fn:=a69) rfl ⟨by simp[a69],by decide⟩ ?_
 unfold a69
 have ec:convV .u64 (.int .i64 (mark:Int))=some (.int .u64 (mark:Int)):=by rw[qhq,qAq rfl (show mark<2^64 by omega)]
 simp[ec,qaq,allKnown,hs.allKnown,-qhq]
 refine (encNat_spec (by omega)).mono fun r1 B1 ⟨x1,o1⟩=>?_
 simp[qaq,allKnown,hs.allKnown]
 refine (encC_spec (Sl.ext x1 hs) hl hok).mono fun r2 B2 ⟨x2,o2⟩=>?_
 have hsl:Sl (B2.make [r1,r2] 1).2 1 (.slice (some (B2.next,0,0)) 0 2 2 0) [r1,r2]:=(qtq B2 (cs:=[r1,r2]) (sz:=1) (n:=2) rfl (Nat.le_refl _) (len:=2) (Nat.le_refl _)).sl
 have x5:=qdq B2 [r1,r2] 1
 have hpp:PartsB (B2.make [r1,r2] 1).2 [r1,r2] [natB mark,encC l]:=⟨Sl.ext x5 (Sl.ext x2 o1.sl),Sl.ext x5 o2.sl,trivial⟩
 have hfl:[natB mark,encC l].flatten=recB mark l:=by simp[recB]
 have h1:=natB_length (n:=mark) (by omega)
 have h2:=natB_length (n:=l.length) (by omega)
 have h3:=encChs_length hok
 have hlen:(recB mark l).length<2^40:=by unfold recB encC;simp only[List.length_append];omega
 simp[fillA,o1.sl.notBot,o2.sl.notBot,o1.sl.cells,o2.sl.cells,splice,Made.value,qaq,allKnown]
 refine (seq_spec hsl hpp (by simp) (by rw[hfl];omega)).mono fun r5 C5 ⟨y5,o5⟩=>?_
 rw[hfl] at o5
 simp[o5.sl.known]
 exact⟨((x1.trans x2).trans x5).trans y5,o5.mono ((x1.trans x2).trans x5).next⟩
def wrongH (d:HeD) (mark:Int) (l:List ChD):Int:=if mark<0∨1073741824<mark then 2 else (applyL (rowsI d.idx) l).1
theorem check_spec (HX:RowsX X A0) (HC:RowsC X) (HI:RowsI X) (HK:RowsK X) {b:Nat} {K:Nat→Nat} {A:St} {h j p m:Nat} {d:HeD} (H:HpC b K A h j p m d) {s:AV} {l:List ChD} (hs:Sl A 3 s (ChR.all l)) (hl:l.length<2^40) (hg:A0.Ext A) {mark:Int} :
  Ev D G0 fnsL X 66 [.ptr (some (h,0,0)),.int .i64 mark,s] A fun r B=>A.Ext B∧EV B r (wrongH d mark l):=by
 refine Ev.fnK (fn:=a66) rfl ⟨by simp[a66],by decide⟩ ?_
 unfold a66
 unfold wrongH
 by_cases hm:mark<0∨1073741824<mark
 ·rw[if_pos hm]
  have hgo:∀ E:Env,E.at 1=.int .i64 mark→True:=fun _ _=>trivial
  by_cases h1:mark<0
  ·simp[h1,pickV,qaq,allKnown]
   refine (new_spec (e:=2) (by decide)).mono fun r B ⟨x1,h1⟩=>?_
   obtain⟨t,u,rfl⟩:=h1.isIface
   simp[qaq,allKnown]
   refine (bound_spec h1).mono fun r C ⟨x2,h2⟩=>?_
   obtain⟨t,u,rfl⟩:=h2.isIface
   simp
   exact⟨x1.trans x2,h2.ev (by decide)⟩
  ·have h2:1073741824<mark:=by omega
   simp[h1,h2,pickV,qaq,allKnown]
   refine (new_spec (e:=2) (by decide)).mono fun r B ⟨x1,h1⟩=>?_
   obtain⟨t,u,rfl⟩:=h1.isIface
   simp[qaq,allKnown]
   refine (bound_spec h1).mono fun r C ⟨x2,h2⟩=>?_
   obtain⟨t,u,rfl⟩:=h2.isIface
   simp
   exact⟨x1.trans x2,h2.ev (by decide)⟩
 ·rw[if_neg hm]
  simp only[not_or] at hm
  simp[hm.1,hm.2,pickV,qaq,allKnown,hs.allKnown]
  refine (hrows_spec HK H).mono fun v B ⟨x1,hv⟩=>?_
  simp[qaq,allKnown,hv.sl.allKnown]
  refine tryC_spec HX HC HI (newSelf H.ok) H.ok.rows hv.sl (Sl.ext x1 hs) hl (hg.trans x1) fun q C x2 hap=>?_
  simp[qaq,allKnown,(Sl.ext x1 hs).allKnown]
  refine hap.mono fun r C2 ⟨x3,hr⟩=>?_
  subst hr
  simp[qaq,allKnown]
  by_cases he:(applyL (rowsI d.idx) l).1=0
  ·rw[he]
   refine new_nil.mono fun r B ⟨h1,h2⟩=>?_
   subst h1 h2
   simp[qaq,allKnown]
   refine name_nil.mono fun r B ⟨h1,h2⟩=>?_
   subst h1 h2
   simp
   exact⟨x1.trans x3,EV.nil _⟩
  ·refine (new_spec he).mono fun r B ⟨x4,h1⟩=>?_
   obtain⟨t,u,rfl⟩:=h1.isIface
   simp[qaq,allKnown]
   refine (name_spec h1).mono fun r C ⟨x5,h2⟩=>?_
   obtain⟨t,u,rfl⟩:=h2.isIface
   simp
   exact⟨((x1.trans x3).trans x4).trans x5,h2.ev (by decide)⟩
end
theorem addI_append (rec:Int):∀ (a c:List ChD) (x:Idx),addI rec x (a++c)=addI rec (addI rec x a) c
 | [],c,x=>rfl
 | y::a,c,x=>addI_append rec a c _
theorem addI_take {rec:Int} {x:Idx} {l:List ChD} {i:Nat} {c:ChD} (h:l[i]?=some c):addI rec x (l.take (i+1))=putA c.key ⟨c,rec⟩ (addI rec x (l.take i)):=by
 have ht:l.take (i+1)=l.take i++[c]:=by rw[List.take_add_one,h];rfl
 rw[ht,addI_append]
 rfl
theorem addI_assoc {rec:Int} {P:EnD→Prop}:∀ {l:List ChD} {x:Idx},(∀ k e,assoc k x=some e→P e)→(∀ c∈l,P ⟨c,rec⟩)→∀ k e,assoc k (addI rec x l)=some e→P e
 | [],x,h,_=>h
 | c::l,x,h,hl=>addI_assoc (l:=l) (fun k e he=>by
   rw[assoc_put] at he
   split at he
   ·cases he;exact hl c List.mem_cons_self
   ·exact h k e he) fun d hd=>hl d (List.mem_cons_of_mem _ hd)
theorem addI_keys {rec:Int} {n:Nat}:∀ {l:List ChD} {x:Idx},(∀ k∈keysA x,k.length≤n)→(∀ c∈l,c.key.length≤n)→∀ k∈keysA (addI rec x l),k.length≤n
 | [],x,h,_=>h
 | c::l,x,h,hl=>addI_keys (l:=l) (fun k hk=>by
   rcases mem_keysA_put.1 hk with rfl|hk
   ·exact hl c List.mem_cons_self
   ·exact h k hk) fun d hd=>hl d (List.mem_cons_of_mem _ hd)
theorem addI_length {rec:Int}:∀ {l:List ChD} {x:Idx},(addI rec x l).length≤x.length+l.length
 | [],x=>Nat.le_refl _
 | c::l,x=>by
  have h1:=addI_length (rec:=rec) (l:=l) (x:=putA c.key ⟨c,rec⟩ x)
  have h2:=length_put c.key (EnD.mk c rec) x
  simp only[addI,List.length_cons]
  split at h2<;>omega
def HeD.add (d:HeD) (rec mark:Int) (l:List ChD):HeD:=⟨d.jd,addI rec d.idx l,d.all+l.length,max d.mark mark,d.recs⟩
theorem HpOk.add {d:HeD} (h:HpOk d) {rec mark:Int} {l:List ChD} (hm:0≤mark∧mark≤1073741824) (hok:∀ c∈l,okC c=true∧i64ok c.n) {r:List RowD} (hf:foldC (rowsI d.idx) l=some r) (h1:d.idx.length+l.length≤1000000) (h2:d.all+l.length≤1099511627776):HpOk (d.add rec mark l):=by
 have hr:=addI_rows (rec:=rec) h.idx hf
 have h3:=addI_length (rec:=rec) (l:=l) (x:=d.idx)
 have h4:=h.all
 have h5:=h.mark
 refine⟨addI_ok h.idx,addI_keys h.keys fun c hc=>(okC_iff (hok c hc).1).1,addI_assoc (P:=fun e=>i64ok e.c.n) h.nums fun c hc=>(hok c hc).2,?_,?_,?_,?_,h.recs⟩
 ·show (addI rec d.idx l).length≤1000000
  omega
 ·show (rowsI (addI rec d.idx l)).length≤256
  rw[hr]
  exact fold_len h.rows hf
 ·show 0≤d.all+l.length∧d.all+l.length≤1099511627776
  omega
 ·show 0≤max d.mark mark∧max d.mark mark≤1073741824
  omega
section
variable {D:Disp} {G0:Env} {X:Calls'} {A0:St}
theorem hadd_spec {b:Nat} {K:Nat→Nat} {A:St} {h j p m:Nat} {d:HeD} (H:HpC b K A h j p m d) {s:AV} {l:List ChD} (hs:Sl A 3 s (ChR.all l)) (hsK:∀ f,s.into f=true→K f=0) {rec mark:Int} (hok':HpOk (d.add rec mark l)) (hmk:0≤mark) (hl:l.length<2^30) :
  Ev D G0 fnsL X 70 [.ptr (some (h,0,0)),.int .i64 rec,.int .i64 mark,s] A fun r B=>r=.tuple []∧Mod (HW b K) A B∧HpC b K B h j p m (d.add rec mark l):=by
 refine Ev.fnK (fn:=a70) rfl ⟨by simp[a70],by decide⟩ ?_
 unfold a70
 obtain⟨mi,ml,c,h1,h2,h3,h4,h5⟩:=H.ex
 have hlen:=hs.rec_lenV
 simp[hlen]
 have hkh:=H.kh
 refine Wp.loopK (fun q E A'=>Mod (fun f=>f=mi) A A'∧Env.at E 0=.ptr (some (h,0,0))∧Env.at E 1=.int .i64 rec∧Env.at E 2=.int .i64 mark∧Env.at E 3=s∧Env.at E 10=s∧Env.at E 11=.int .i64 l.length∧∃ i:Nat,Env.at E 12=.int .i64 i∧i≤l.length∧i+q=l.length∧∃ ml c,MapE AV.str A' mi ml c∧ValsR entR (valsA ml) (addI rec d.idx (l.take i))) l.length ?_ ?_
 ·exact⟨Mod.refl A,by simp,by simp,by simp,by simp,by simp,by simp,0,by simp,Nat.zero_le _,by simp,ml,c,h2,h3⟩
 rintro q E A' ⟨m,e0,e1,e2,e3,e10,e11,i,e12,q1,q2,ml',c',hM,hV⟩
 have hsA:Sl A' 3 s (ChR.all l):=Sl.mod hs m fun f hf hW=>by have:=hsK f hf;rw[hW,h4] at this;omega
 have hcl:=h1.mod m h5
 simp[e11,e12,qoq,-qjq]
 refine qeq (fun hc=>?_) (fun hc=>?_)
 ·simp at hc
  have hg:l[i]?=some l[i]:=List.getElem?_eq_getElem hc
  obtain⟨p',g1,g2⟩:=hsA.rec_at hg .i64
  obtain⟨C,w1,w2,w3⟩:=local_put A' (cs:=[.str [],.int .i64 0,.bool false]) (n:=3) rfl (l:=ChR.cells l[i]) rfl rfl
  have l0:=w3.ld 0 (v:=.str l[i].key) rfl
  have l3:loadV C 3 true (.ptr (some (A'.next,0,0)))=some (.agg (ChR.cells l[i])):=by
   have:=w3.lda 0 3 (by simp[ChR.len])
   rw[this]
   rfl
  have hclC:=hcl.ext w2
  have lm:=hclC.ld 1 (v:=.map (some mi)) rfl
  obtain⟨ml2,c2,k1,k2,k3⟩:=(hM.ext w2).put keyEnc_str (E:=env3 (.map (some mi)) (.str l[i].key) (.agg [.str l[i].key,.int .i64 l[i].n,.bool l[i].there,.int .i64 rec])) (mp:=.tmp 0) (x:=.tmp 1) (y:=.tmp 2) (k:=l[i].key) (v:=.agg [.str l[i].key,.int .i64 l[i].n,.bool l[i].there,.int .i64 rec]) (by simp[env3]) (by simp[env3]) (by simp[env3]) (by simp)
  have hput:∀ (E:Env) (mp x y:Operand),ev E mp=.map (some mi)→ev E x=.str l[i].key→ev E y=.agg [.str l[i].key,.int .i64 l[i].n,.bool l[i].there,.int .i64 rec]→effOf E C (.mapPut .str mp x y)=some (.bot,C.put mi (.map (entC AV.str ml2) c2)):=fun E mp x y e1 e2 e3=>by rw[mapPut_same e1 e2 e3];exact k1
  have mC:Mod (fun f=>f=mi) C (C.put mi (.map (entC AV.str ml2) c2)):=mod_put C mi _ rfl
  have ea:=add_one (i:=i) (by omega)
  simp[-qbq] at ea
  have hbeq:AV.beq (.agg (ChR.cells l[i])) (.agg (ChR.cells l[i]))=true:=by simp[ChR,AV.beq,AV.beqs]
  have hcc:(ChR.cells l[i])=[.str l[i].key,.int .i64 l[i].n,.bool l[i].there]:=rfl
  simp[e10,e12,g1,g2,Made.value,w1,-qbq]
  refine Wp.draws ?_
  rw[hcc] at l3
  simp[e0,e1,AV.addr,lm,l0,l3,fillA,splice,AV.isBot,AV.cells,aggV,-qbq]
  rw[hput _ _ _ _ (by simp) (by simp) (by simp)]
  simp[InAll,lm,l0,l3,AV.beq,AV.beqs,e0,e1,e2,e3,e10,e11,e12,ea,-qbq]
  refine⟨q - 1,by omega,(m.trans (Mod.of_ext w2)).trans mC,i+1,by omega,by omega,by omega,ml2,⟨c2,k3⟩,?_⟩
  rw[k2,addI_take hg]
  exact hV.put (d:=(⟨l[i],rec⟩:EnD)) (show entR _ _ from rfl)
 ·simp at hc
  have hil:i=l.length:=by omega
  rw[hil,List.take_length] at hV
  have la:=hcl.ld 2 (v:=.int .i64 d.all) rfl
  have ha:=hok'.all
  have hao:=H.ok.all
  have hmo:=hok'.mark
  have eall:binOf .add (.int .i64 d.all) (.int .i64 (l.length:Int))=some (.int .i64 (d.all+l.length)):=by
   rw[qbq,IntKind.wrap_i64]
   congr 2
   show _=_
   omega
  obtain⟨C1,s1,s2,s3⟩:=hcl.stM 2 (by simp) (v:=.int .i64 (d.all+l.length)) rfl rfl rfl
  simp at s3
  have lk:=s3.ld 3 (v:=.int .i64 d.mark) rfl
  obtain⟨C2,t1,t2,t3⟩:=s3.stM 3 (by simp) (v:=.int .i64 (max d.mark mark)) rfl rfl rfl
  simp at t3
  have em:=fun (E:Env) (a b:Operand) (h1:ev E a=.int .i64 d.mark) (h2:ev E b=.int .i64 mark)=>pure_mm2 (b:=true) h1 h2
  have hsl:=hsA.rec_lenV
  simp[e0,e2,e3,AV.addr,la,hsl,eall,s1,lk,-qbq]
  rw[em _ _ _ (by simp) (by simp)]
  simp[AV.addr,t1]
  have m2:Mod (fun f=>f=mi∨f=h) A C2:=((m.mono fun f _ hf=>.inl hf).trans (s2.mono fun f _ hf=>.inr hf)).trans (t2.mono fun f _ hf=>.inr hf)
  have mh:Mod (fun f=>f=h) A' C2:=s2.trans t2
  refine⟨m2.mono fun f _ hf=>?_,H.jo.mod m2 fun f hf=>?_,⟨mi,ml',c',t3,hM.mod mh (fun h=>h5 h.symm),hV,h4,h5⟩,hkh,hok'⟩
  ·rcases hf with rfl|rfl
   ·exact .inr (.inr h4)
   ·exact .inr (.inr hkh)
  ·rcases hf with rfl|rfl<;>omega
end
def HeD.put (d:HeD) (mark:Int) (l:List ChD):Int × HeD:=
 if wrongH d mark l≠0 then (wrongH d mark l,d) else
 if (d.jd.write [recB mark.toNat l]).1≠0 then ((d.jd.write [recB mark.toNat l]).1,{ d with jd:=(d.jd.write [recB mark.toNat l]).2 }) else
 (0,HeD.add { d with jd:=(d.jd.write [recB mark.toNat l]).2,recs:=d.recs+1 } (d.recs+1) mark l)
theorem wrong_no {d:HeD} {mark:Int} {l:List ChD} (h:wrongH d mark l=0):(0≤mark∧mark≤1073741824)∧allOk l=true∧∃ r,foldC (rowsI d.idx) l=some r:=by
 unfold wrongH at h
 split at h
 ·cases h
 ·rename_i hm
  unfold applyL at h
  split at h
  ·rename_i ha
   split at h
   ·rename_i r hr
    exact⟨by omega,ha,r,hr⟩
   ·cases h
  ·cases h
theorem HpC.jour {b:Nat} {K K':Nat→Nat} {A B:St} {h j p m:Nat} {d:HeD} (H:HpC b K A h j p m d) (u:KUp K K' A) (x:Mod (JW b K) A B) {jd:JoD} (hj:JoC b K' B j p m jd):HpC b K' B h j p m { d with jd:=jd }:=by
 obtain⟨mi,l,c,h1,h2,h3,h4,h5⟩:=H.ex
 have hkh:=H.kh
 have no:∀ f,K f=b+3→¬JW b K f:=fun f hf hW=>by rcases hW with h|h<;>omega
 exact⟨hj,⟨mi,l,c,h1.mod x (no _ hkh),h2.mod x (no _ h4),h3,by rw[u _ h2.lt];exact h4,h5⟩,by rw[u _ h1.lt];exact hkh,⟨H.ok.idx,H.ok.keys,H.ok.nums,H.ok.few,H.ok.rows,H.ok.all,H.ok.mark,H.ok.recs⟩⟩
theorem HpC.setRecs {b:Nat} {K:Nat→Nat} {A:St} {h j p m:Nat} {d:HeD} (H:HpC b K A h j p m d) {n:Int} (hn:0≤n∧n≤1099511627776) :
  ∃ B,storeV A 1 (.ptr (some (h,0,4))) (.int .i64 n)=some (.bot,B)∧Mod (fun f=>f=h) A B∧HpC b K B h j p m { d with recs:=n }:=by
 obtain⟨mi,l,c,h1,h2,h3,h4,h5⟩:=H.ex
 obtain⟨B,s1,s2,s3⟩:=h1.stM 4 (by simp) (v:=.int .i64 n) rfl rfl rfl
 have hkh:=H.kh
 exact⟨B,s1,s2,H.jo.mod s2 (fun f hf=>by subst hf;omega),⟨mi,l,c,s3,h2.mod s2 (fun h=>h5 h.symm),h3,h4,h5⟩,hkh,⟨H.ok.idx,H.ok.keys,H.ok.nums,H.ok.few,H.ok.rows,H.ok.all,H.ok.mark,hn⟩⟩
theorem HW_new {b:Nat} {K K':Nat→Nat} {A B C:St} (u:KUp K K' A) (h1:Mod (HW b K) A B) (h2:Mod (HW b K') B C):Mod (HW b K) A C:=
 h1.new (h2.mono fun f _ hf=>by
  by_cases hA:f<A.next
  ·left
   unfold HW at hf ⊢
   rw[u f hA] at hf
   exact hf
  ·right;omega)
section
variable {D:Disp} {G0:Env} {X:Calls'} {A0:St}
theorem hput_spec (HX:RowsX X A0) (HC:RowsC X) (HI:RowsI X) (HK:RowsK X) {b:Nat} {K:Nat→Nat} {A:St} (hA:Wld K A0 A) {h j p m:Nat} {d:HeD} (H:HpC b K A h j p m d) {s:AV} {l:List ChD} (hs:Sl A 3 s (ChR.all l)) (hsK:RoS K s) {mark:Int} (hl:l.length≤4096) (hn:∀ c∈l,i64ok c.n)
  (b1:d.jd.recs.length+1<2^20) (b2:d.idx.length+l.length≤1000000) (b3:d.all+l.length≤1099511627776) (b4:d.recs+1≤1099511627776) :
  Ev D G0 fnsL X 15 [.ptr (some (h,0,0)),.int .i64 mark,s] A fun r B=>∃ K',KUp K K' A∧Wld K' A0 B∧Mod (HW b K) A B∧HpC b K' B h j p m (d.put mark l).2∧r=.int .i64 (d.put mark l).1:=by
 refine Ev.fnK (fn:=a15) rfl ⟨by simp[a15],by decide⟩ ?_
 unfold a15
 simp[eqV,eqOf,qaq,allKnown,hs.allKnown]
 refine (check_spec HX HC HI HK H hs (by omega) hA.glob).mono fun r B ⟨x1,he⟩=>?_
 have hB:=hA.ext x1
 rcases he with ⟨h0,rfl⟩|⟨h0,k,ty,u,hk,rfl,h2⟩
 rotate_left
 ·have hR:d.put mark l=(wrongH d mark l,d):=by unfold HeD.put;rw[if_pos h0]
  rw[hR]
  simp[eqV,eqOf,qaq,allKnown]
  refine (qvq HX hB.glob (h2.ev hk)).mono fun r C ⟨q1,q2⟩=>?_
  subst q1 q2
  simp
  exact⟨K,KUp.refl K A,hB,Mod.of_ext x1,H.ext x1⟩
 obtain⟨hm,hall,fr,hfr⟩:=wrong_no h0
 have hokc:∀ c∈l,okC c=true∧i64ok c.n:=fun c hc=>⟨List.all_eq_true.1 hall c hc,hn c hc⟩
 have H1:=H.ext x1
 have hs1:=Sl.ext x1 hs
 obtain⟨mi,ml,mc,c1,c2,c3,c4,c5⟩:=H1.ex
 have l0:=c1.ld 0 (v:=.ptr (some (j,0,0))) rfl
 obtain⟨mk,hmk⟩:∃ mk:Nat,mark=mk:=⟨mark.toNat,by omega⟩
 subst hmk
 simp[eqV,eqOf]
 refine Wp.draws ?_
 simp[AV.addr,l0,qiq,allKnown,hs1.allKnown]
 refine (bytes_spec (by omega) hs1 (by omega) hokc).mono fun v C ⟨x2,hv⟩=>?_
 have x3:=qdq C [v] 1
 have hsl:Sl (C.make [v] 1).2 1 (.slice (some (C.next,0,0)) 0 1 1 0) [v]:=(qtq C (cs:=[v]) (sz:=1) (n:=1) rfl (Nat.le_refl _) (len:=1) (Nat.le_refl _)).sl
 have hpp:PartsB (C.make [v] 1).2 [v] [recB mk l]:=⟨Sl.ext x3 hv.sl,trivial⟩
 have hA3:=(hB.ext x2).ext x3
 have J3:=(H1.jo.ext x2).ext x3
 have hro1:RoS K (.slice (some (C.next,0,0)) 0 1 1 0):=fun f hf=>hA.fresh f (by simp[AV.into] at hf;have:=(x1.trans x2).next;omega)
 have hro2:∀ w∈[v],RoS K w:=fun w hw=>by
  rw[List.mem_singleton] at hw
  subst hw
  exact fun f hf=>hA.fresh f (by have:=(own_into hv hf).1;have:=x1.next;omega)
 simp[fillA,hv.sl.notBot,hv.sl.cells,splice,Made.value,qiq,allKnown]
 refine (write_spec' HX hA3 J3 hsl hpp hro1 hro2 (by simp;omega)).mono fun r E ⟨K1,u1,w1,m1,j1,hr⟩=>?_
 subst hr
 have x13:=(x1.trans x2).trans x3
 have u1A:KUp K K1 A:=fun f hf=>u1 f (Nat.lt_of_lt_of_le hf x13.next)
 have hm1:Mod (JW b K) A E:=(Mod.of_ext x13).trans m1
 have H4:=H.jour u1A hm1 j1
 have hsE:Sl E 3 s (ChR.all l):=Sl.mod hs hm1 fun f hf hW=>hW.ne0 (hsK f hf)
 have hsKE:RoS K1 s:=hsK.up hs u1A
 simp
 refine⟨by simp[InAll,l0,(c1.ext x2).ld 0 (v:=.ptr (some (j,0,0))) rfl,((c1.ext x2).ext x3).ld 0 (v:=.ptr (some (j,0,0))) rfl,AV.beq],?_⟩
 refine qeq (fun hc=>?_) (fun hc=>?_)
 ·have hc0:(d.jd.write [recB mk l]).1≠0:=by simpa using hc
  have hR:d.put mk l=((d.jd.write [recB mk l]).1,{ d with jd:=(d.jd.write [recB mk l]).2 }):=by
   unfold HeD.put
   rw[if_neg (by simp[h0]),Int.toNat_natCast,if_pos hc0]
  rw[hR]
  simp
  exact⟨K1,u1A,w1,hm1.mono fun f _ hf=>hf.hw,H4⟩
 ·have hc0:(d.jd.write [recB mk l]).1=0:=by simpa using hc
  have hR:d.put mk l=(0,HeD.add { d with jd:=(d.jd.write [recB mk l]).2,recs:=d.recs+1 } (d.recs+1) mk l):=by
   unfold HeD.put
   rw[if_neg (by simp[h0]),Int.toNat_natCast,if_neg (by simp[hc0])]
  rw[hR]
  obtain⟨mi',ml',mc',e1,_⟩:=H4.ex
  have l4:=e1.ld 4 (v:=.int .i64 d.recs) rfl
  have hrr:=H.ok.recs
  have ea:binOf .add (.int .i64 d.recs) (.int .i64 1)=some (.int .i64 (d.recs+1)):=by
   rw[qbq,IntKind.wrap_i64]
   congr 2
   show _=_
   omega
  obtain⟨F,s1,s2,H5⟩:=H4.setRecs (n:=d.recs+1) (by omega)
  have hkh:K1 h=b+3:=H4.kh
  have hA5:=w1.mod s2 fun f hf=>by subst hf;omega
  have hs5:Sl F 3 s (ChR.all l):=Sl.mod hsE s2 fun f hf hW=>by have:=hsKE f hf;subst hW;omega
  obtain⟨mi'',ml'',mc'',e1',_⟩:=H5.ex
  have l4':=e1'.ld 4 (v:=.int .i64 (d.recs+1)) rfl
  simp[AV.addr,l4,ea,s1,-qbq]
  simp[AV.addr,l4',qaq,allKnown,hs5.allKnown,-qbq]
  refine (hadd_spec H5 hs5 hsKE (H5.ok.add (rec:=d.recs+1) (mark:=mk) hm hokc (r:=fr) hfr b2 b3) (by omega) (by omega)).mono fun r G ⟨hr,m6,H6⟩=>?_
  subst hr
  simp
  have hH:Mod (HW b K1) E G:=(s2.mono fun f _ hf=>by subst hf;exact .inr (.inr hkh)).trans m6
  exact⟨K1,u1A,hA5.mod m6 fun f hf=>hf.ne0,HW_new u1A (hm1.mono fun f _ hf=>hf.hw) hH,H6⟩
end
theorem live_rows {x:Idx} (h:IdxOk x):liveL x=(rowsI x).map chOf:=by
 unfold rowsI
 rw[List.map_map]
 conv=>lhs;rw[←List.map_id (liveL x)]
 refine List.map_congr_left fun c hc=>?_
 obtain⟨ht,_⟩:=(live_mem h).1 hc
 obtain⟨k,n,t⟩:=c
 simp only at ht
 subst ht
 rfl
theorem live_ok {d:HeD} (h:HpOk d):∀ c∈liveL d.idx,okC c=true∧i64ok c.n:=fun c hc=>by
 obtain⟨ht,e,he,rfl⟩:=(live_mem h.idx).1 hc
 refine⟨?_,h.nums _ e he⟩
 have:=h.keys _ (assoc_some_iff.1 (by rw[he];rfl))
 unfold okC
 simp[ht,this]
theorem live_fold {x:Idx} (h:IdxOk x) (hl:(rowsI x).length≤256):foldC [] (liveL x)=some (rowsI x):=by
 rw[live_rows h]
 have:=fold_rows (b:=rowsI x) (a:=[]) (by simpa using rowsI_up h) (by simpa using hl)
 simpa using this
theorem live_len {x:Idx}:(liveL x).length=(rowsI x).length:=by unfold rowsI;rw[List.length_map]
def HeD.blank (d:HeD) (jd:JoD):HeD:=⟨jd,[],0,d.mark,0⟩
theorem HpOk.blank {d:HeD} (h:HpOk d) (jd:JoD):HpOk (d.blank jd):=by
 refine⟨idx_nil,fun k hk=>?_,fun k e he=>?_,Nat.zero_le _,Nat.zero_le _,?_,h.mark,?_⟩
 ·simp[HeD.blank,keysA] at hk
 ·have:(none:Option EnD)=some e:=he
  cases this
 ·show (0:Int)≤0∧(0:Int)≤1099511627776
  omega
 ·show (0:Int)≤0∧(0:Int)≤1099511627776
  omega
def HeD.compact (d:HeD):Int × HeD:=
 if (d.jd.save (recB d.mark.toNat (liveL d.idx))).1≠0 then ((d.jd.save (recB d.mark.toNat (liveL d.idx))).1,{ d with jd:=(d.jd.save (recB d.mark.toNat (liveL d.idx))).2 }) else
 (0,(d.blank (d.jd.save (recB d.mark.toNat (liveL d.idx))).2).add 0 d.mark (liveL d.idx))
section
variable {D:Disp} {G0:Env} {X:Calls'} {A0:St}
theorem hcompact_spec (HX:RowsX X A0) (HK:RowsK X) {b:Nat} {K:Nat→Nat} {A:St} (hA:Wld K A0 A) {h j p m:Nat} {d:HeD} (H:HpC b K A h j p m d) :
  Ev D G0 fnsL X 23 [.ptr (some (h,0,0))] A fun r B=>∃ K',KUp K K' A∧Wld K' A0 B∧Mod (HW b K) A B∧HpC b K' B h j p m d.compact.2∧r=.int .i64 d.compact.1:=by
 refine Ev.fnK (fn:=a23) rfl ⟨by simp[a23],by decide⟩ ?_
 unfold a23
 simp[eqV,eqOf,qaq,allKnown]
 refine (changes_spec HK H).mono fun s B ⟨x1,hs⟩=>?_
 have hB:=hA.ext x1
 have H1:=H.ext x1
 have hlok:=live_ok H.ok
 have hll:=live_len (x:=d.idx)
 have hrow:=H.ok.rows
 have hfo:=live_fold H.ok.idx hrow
 obtain⟨L,hL⟩:∃ L,L=liveL d.idx:=⟨_,rfl⟩
 have hR0:d.compact=if (d.jd.save (recB d.mark.toNat L)).1≠0 then ((d.jd.save (recB d.mark.toNat L)).1,{ d with jd:=(d.jd.save (recB d.mark.toNat L)).2 }) else (0,(d.blank (d.jd.save (recB d.mark.toNat L)).2).add 0 d.mark L):=by rw[hL];rfl
 rw[←hL] at hs hlok hll hfo
 have hsK:RoS K s:=fun f hf=>hA.fresh f (own_into hs hf).1
 obtain⟨mi,ml,mc,c1,c2,c3,c4,c5⟩:=H1.ex
 have hmo:=H.ok.mark
 obtain⟨mk,hmk⟩:∃ mk:Nat,d.mark=mk:=⟨d.mark.toNat,by omega⟩
 have hmn:d.mark.toNat=mk:=by omega
 rw[hmn] at hR0
 have l0:=c1.ld 0 (v:=.ptr (some (j,0,0))) rfl
 have l3:=c1.ld 3 (v:=.int .i64 d.mark) rfl
 rw[hmk] at l3
 simp
 refine Wp.draws ?_
 simp[AV.addr,l0,l3,qiq,allKnown,hs.sl.allKnown]
 refine (bytes_spec (by omega) hs.sl (by omega) hlok).mono fun v C ⟨x2,hv⟩=>?_
 have l0':=(c1.ext x2).ld 0 (v:=.ptr (some (j,0,0))) rfl
 have hro:RoS K v:=fun f hf=>hA.fresh f (by have:=(own_into hv hf).1;have:=x1.next;omega)
 have hbl:(recB mk L).length<2^40:=by have:=recB_length (mark:=mk) (by omega) hlok (by omega);omega
 simp[qiq,allKnown,hv.sl.allKnown]
 refine (save_spec' HX (hB.ext x2) (H1.jo.ext x2) hv.sl hro hbl).mono fun r E ⟨m1,j1,hr⟩=>?_
 subst hr
 have x12:=x1.trans x2
 have hm1:Mod (JW b K) A E:=(Mod.of_ext x12).trans m1
 have H4:=H.jour (KUp.refl K A) hm1 j1
 have hE:=(hB.ext x2).mod m1 fun f hf=>hf.ne0
 have hsE:Sl E 3 s (ChR.all L):=Sl.mod (Sl.ext x2 hs.sl) m1 fun f hf hW=>hW.ne0 (hsK f hf)
 simp
 refine⟨by simp[InAll,l0,l0',l3,AV.beq],?_⟩
 refine qeq (fun hc=>?_) (fun hc=>?_)
 ·have hc0:(d.jd.save (recB mk L)).1≠0:=by simpa using hc
  rw[if_pos hc0] at hR0
  rw[hR0]
  simp
  exact⟨K,KUp.refl K A,hE,hm1.mono fun f _ hf=>hf.hw,H4⟩
 ·have hc0:(d.jd.save (recB mk L)).1=0:=by simpa using hc
  rw[if_neg (by simp[hc0])] at hR0
  rw[hR0]
  have xp:E.Ext (E.push (.map [] 0)):=ext_push _ _
  have hE1:Wld (kNew K E.next (b+3)) A0 (E.push (.map [] 0)):=wld_new hE xp (Nat.lt_succ_self _)
  have u1:=kNew_up K E (b+3)
  have H5:=(H4.up u1).ext xp
  obtain⟨mi',ml',mc',e1,_,_,e4,e5⟩:=H5.ex
  have hmN:=mapE_new AV.str E
  obtain⟨F1,s1,s2,s3⟩:=e1.stM 1 (by simp) (v:=.map (some E.next)) rfl rfl rfl
  simp at s3
  obtain⟨F2,t1,t2,t3⟩:=s3.stM 2 (by simp) (v:=.int .i64 0) rfl rfl rfl
  simp at t3
  obtain⟨F3,w1,w2,w3⟩:=t3.stM 4 (by simp) (v:=.int .i64 0) rfl rfl rfl
  simp at w3
  have mh:Mod (fun f=>f=h) (E.push (.map [] 0)) F3:=(s2.trans t2).trans w2
  have hhE:h<E.next:=by obtain⟨_,_,_,z,_⟩:=H4.ex;exact z.lt
  have hkh:kNew K E.next (b+3) h=b+3:=H5.kh
  have H6:HpC b (kNew K E.next (b+3)) F3 h j p m (d.blank (d.jd.save (recB mk L)).2):=
   ⟨H5.jo.mod mh (fun f hf=>by subst hf;omega),⟨E.next,[],0,w3,hmN.mod mh (by omega),trivial,kNew_self _ _ _,by omega⟩,hkh,H.ok.blank _⟩
  have hA6:=hE1.mod mh fun f hf=>by subst hf;omega
  have hs6:Sl F3 3 s (ChR.all L):=Sl.mod (Sl.ext xp hsE) mh fun f hf hW=>by
   subst hW
   have h1:=hsK _ hf
   have h2:=H.kh
   omega
  have hsK6:RoS (kNew K E.next (b+3)) s:=hsK.up hsE u1
  have lm:=w3.ld 3 (v:=.int .i64 d.mark) rfl
  simp[AV.addr,eff_mkMap,s1,t1,w1,lm,qaq,allKnown,hs6.allKnown]
  refine (hadd_spec H6 hs6 hsK6 (H6.ok.add (rec:=0) (mark:=d.mark) hmo hlok (r:=rowsI d.idx) hfo (by simp[HeD.blank];omega) (by simp[HeD.blank];omega)) (by omega) (by omega)).mono fun r G ⟨hr,m6,H7⟩=>?_
  subst hr
  simp
  have hH:Mod (HW b (kNew K E.next (b+3))) E G:=((Mod.of_ext xp).trans (mh.mono fun f _ hf=>by subst hf;exact .inr (.inr hkh))).trans m6
  have uA:KUp K (kNew K E.next (b+3)) A:=fun f hf=>u1 f (Nat.lt_of_lt_of_le hf hm1.next)
  exact⟨_,uA,hA6.mod m6 fun f hf=>hf.ne0,HW_new uA (hm1.mono fun f _ hf=>hf.hw) hH,H7⟩
end
theorem chS_ok (s:RdS):i64ok (chS s).1.n:=by
 unfold chS
 simp only
 split
 ·exact zag_ok (natS_lt _)
 ·simp[i64ok]
theorem chsS_ok:∀ (n:Nat) (s:RdS),∀ c∈(chsS n s).1,i64ok c.n
 | 0,s,c,h=>by cases h
 | n+1,none,c,h=>by cases h
 | n+1,some l,c,h=>by
  simp only[chsS] at h
  rcases List.mem_cons.1 h with rfl|h
  ·exact chS_ok _
  ·exact chsS_ok n _ c h
theorem chsS_len:∀ (n:Nat) (s:RdS),(chsS n s).1.length≤n
 | 0,s=>Nat.le_refl _
 | n+1,none=>Nat.zero_le _
 | n+1,some l=>by
  simp only[chsS,List.length_cons]
  have:=chsS_len n (chS (some l)).2
  omega
theorem decC_ok {b:List UInt8} {l:List ChD} (h:decC b=some l):l.length≤4096∧∀ c∈l,i64ok c.n:=by
 unfold decC at h
 split at h
 ·cases h
 ·rename_i hn
  split at h
  ·rename_i l' he
   cases h
   have h1:=chsS_len (natS (some b)).1 (natS (some b)).2
   have h2:=chsS_ok (natS (some b)).1 (natS (some b)).2
   rw[he] at h1 h2
   exact⟨by simp only at h1;omega,h2⟩
  ·cases h
def HeD.load (d:HeD) (rec:Int) (b:List UInt8):Option HeD:=
 match recP b with
 | some (m,l)=>if (applyL (rowsI d.idx) l).1≠0 then none else some (d.add rec m l)
 | none=>none
def BadE (B:St) (r:AV):Prop:=∃ k t u e,k≤1∧r=.iface t u∧e≠0∧ErrSh 0 B k (.iface t u) e
section
variable {D:Disp} {G0:Env} {X:Calls'} {A0:St}
theorem left_spec {lo:Nat} {A:St} {p:Nat} {b l:List UInt8} (h:InR A0 lo A p b (some l)):Ev D G0 fnsL X 170 [.ptr (some (p,0,0))] A fun r B=>A=B∧∃ i:Nat,r=.int .i64 ((b.length - i:Nat):Int)∧i≤b.length∧l=b.drop i:=by
 refine Ev.fnK (fn:=a170) rfl ⟨by simp[a170],by decide⟩ ?_
 unfold a170
 obtain⟨s,e,i,hC,rfl,hl⟩:=h.ex
 have l0:=hC.cl.ld 0 (v:=s) rfl
 have l1:=hC.cl.ld 1 (v:=.int .i64 i) rfl
 have hlen:=hC.sl.lenV1
 rw[qFq] at hlen
 have hfew:=hC.few
 have hle:=hC.le
 obtain⟨z,hz,ez⟩:=sub_nat (a:=b.length) (b:=i) hle (by omega)
 simp[eqV,eqOf]
 refine Wp.draws ?_
 simp[AV.addr,l0,l1,hlen,ez,InAll,AV.beq,hC.sl.beq,-qsq]
 exact⟨i,by omega,hle,hl⟩
theorem hload_spec (HX:RowsX X A0) (HC:RowsC X) (HI:RowsI X) (HK:RowsK X) {b:Nat} {K:Nat→Nat} {A:St} (hA:Wld K A0 A) {h j p m:Nat} {d:HeD} (H:HpC b K A h j p m d) {v:AV} {w:List UInt8} (hv:Bs A v w) (hw:w.length<2^40) {rec:Int}
  (b2:d.idx.length+4096≤1000000) (b3:d.all+4096≤1099511627776) :
  Ev D G0 fnsL X 80 [.ptr (some (h,0,0)),.int .i64 rec,v] A fun r B=>Mod (HW b K) A B∧match d.load rec w with
   | some d'=>r=.nilIface∧HpC b K B h j p m d'
   | none=>BadE B r:=by
 refine Ev.fnK (fn:=a80) rfl ⟨by simp[a80],by decide⟩ ?_
 unfold a80
 simp[qaq,allKnown,hv.allKnown]
 refine (of_spec hv hw hA.glob).mono fun r B ⟨hr,x1,hn1,hi1⟩=>?_
 subst hr
 simp[qaq,allKnown]
 refine (inNat_spec hi1).mono fun r B2 ⟨hr,m2,hi2⟩=>?_
 subst hr
 have x2:A.Ext B2:=⟨Nat.le_trans x1.next m2.next,fun f hf=>(m2.get f (Nat.lt_of_lt_of_le hf x1.next) (by omega)).trans (x1.get f hf)⟩
 have hnlt:=natS_lt (some w)
 have hrec:recP w=match natS (some w) with
  | (m,some r)=>if 1073741824<m then none else (match decC r with|some l=>some (m,l)|none=>none)
  | _=>none:=rfl
 obtain⟨NM,ST,hNS⟩:∃ NM ST,natS (some w)=(NM,ST):=⟨_,_,rfl⟩
 rw[hNS] at hrec hi2 hnlt ⊢
 simp only at hrec hi2 hnlt ⊢
 have eg:binOf .gtr (.int .u64 (NM:Int)) (.int .u64 1073741824)=some (.bool (decide (1073741824<NM))):=by rw[qfq];simp;omega
 simp[qaq,allKnown]
 refine (err_spec HX hi2).mono fun r B3 ⟨hB,c,hr,hc⟩=>?_
 subst hB hr
 have hload:d.load rec w=match recP w with
   | some (m,l)=>if (applyL (rowsI d.idx) l).1≠0 then none else some (d.add rec m l)
   | none=>none:=rfl
 by_cases hbad:c≠0∨1073741824<NM
 ·have hnone:d.load rec w=none:=by
   rw[hload,hrec]
   rcases hbad with hb|hb
   ·cases ST with
    | none=>rfl
    | some r=>simp at hc;exact absurd hc hb
   ·cases ST with
    | none=>rfl
    | some r=>simp only[if_pos hb]
  rw[hnone]
  have hcnd:∀ {Q:Bool→Prop},Q true→(if c=0 then Q (decide (1073741824<NM)) else Q true):=fun {Q} hq=>by
   split
   ·rcases hbad with hb|hb
    ·rename_i h0;exact absurd h0 hb
    ·rw[decide_eq_true hb];exact hq
   ·exact hq
  by_cases h0:c=0
  ·have hb:1073741824<NM:=by rcases hbad with hb|hb;exact absurd h0 hb;exact hb
   rw[decide_eq_true hb] at eg
   simp[h0,eg,pickV,qaq,allKnown,-qfq]
   refine (new_spec (e:=6) (by decide)).mono fun r B ⟨x3,h1⟩=>?_
   obtain⟨t,u,rfl⟩:=h1.isIface
   simp[qaq,allKnown]
   refine (name_spec h1).mono fun r C ⟨x4,h2⟩=>?_
   obtain⟨t,u,rfl⟩:=h2.isIface
   simp
   exact⟨Mod.of_ext ((x2.trans x3).trans x4),1,t,u,6,Nat.le_refl _,rfl,by decide,h2.mono (Nat.zero_le _)⟩
  ·simp[h0,pickV,qaq,allKnown]
   refine (new_spec (e:=6) (by decide)).mono fun r B ⟨x3,h1⟩=>?_
   obtain⟨t,u,rfl⟩:=h1.isIface
   simp[qaq,allKnown]
   refine (name_spec h1).mono fun r C ⟨x4,h2⟩=>?_
   obtain⟨t,u,rfl⟩:=h2.isIface
   simp
   exact⟨Mod.of_ext ((x2.trans x3).trans x4),1,t,u,6,Nat.le_refl _,rfl,by decide,h2.mono (Nat.zero_le _)⟩
 ·simp only[not_or,Classical.not_not] at hbad
  obtain⟨h0,hNM⟩:=hbad
  subst h0
  simp at hc
  obtain⟨R,hR⟩:∃ R,ST=some R:=by
   cases ST with
   | none=>cases hc
   | some R=>exact⟨R,rfl⟩
  subst hR
  rw[decide_eq_false hNM] at eg
  have hvA:=Sl.ext x2 hv
  have hvl:=hvA.lenV1
  rw[qFq] at hvl
  simp[eg,pickV,hvl,qaq,allKnown,-qfq]
  refine (left_spec hi2).mono fun r B3 ⟨hB,i,hr,hil,hRd⟩=>?_
  subst hB hr
  obtain⟨z,hz,ez⟩:=sub_nat (a:=w.length) (b:=w.length - i) (by omega) (by omega)
  have hzi:z=i:=by omega
  subst hzi
  obtain⟨s',q1,q2,q3⟩:=hvA.cutFrom (lo:=z) (by have:=hvA.length;rw[qFq] at this;omega) (k:=.i64)
  rw[Nat.mul_one,bytesV_drop,←hRd] at q3
  have hRl:R.length<2^40:=by rw[hRd,List.length_drop];omega
  simp only[if_neg hNM] at hrec
  simp[ez,q1,qaq,allKnown,q3.allKnown,-qsq]
  refine (decC_spec HX (hA.glob.trans x2) q3 hRl).mono fun r B4 ⟨x4,hr⟩=>?_
  have x24:=x2.trans x4
  cases hd:decC R with
  | none=>
   rw[hd] at hr hrec
   simp only at hr
   subst hr
   have hnone:d.load rec w=none:=by rw[hload,hrec]
   rw[hnone]
   simp[qaq,allKnown]
   refine (new_spec (e:=6) (by decide)).mono fun r B ⟨x3,h1⟩=>?_
   obtain⟨t,u,rfl⟩:=h1.isIface
   simp[qaq,allKnown]
   refine (name_spec h1).mono fun r C ⟨x5,h2⟩=>?_
   obtain⟨t,u,rfl⟩:=h2.isIface
   simp
   exact⟨Mod.of_ext ((x24.trans x3).trans x5),1,t,u,6,Nat.le_refl _,rfl,by decide,h2.mono (Nat.zero_le _)⟩
  | some l=>
   rw[hd] at hr hrec
   obtain⟨v',rfl,ho⟩:=hr
   simp only at hrec
   rw[hrec] at hload
   simp only at hload
   obtain⟨hl1,hl2⟩:=decC_ok hd
   have H4:=H.ext x24
   simp[qaq,allKnown,ho.sl.allKnown]
   refine (hfits_spec HX HC HI HK H4 ho.sl (by omega) (hA.glob.trans x24)).mono fun r B5 ⟨x5,hr⟩=>?_
   subst hr
   have x25:=x24.trans x5
   by_cases hap:(applyL (rowsI d.idx) l).1=0
   ·rw[if_neg (by simp[hap])] at hload
    have hwr:wrongH d NM l=0:=by unfold wrongH;rw[if_neg (by omega)];exact hap
    obtain⟨hm,hall,fr,hfr⟩:=wrong_no hwr
    have hokc:∀ c∈l,okC c=true∧i64ok c.n:=fun c hc=>⟨List.all_eq_true.1 hall c hc,hl2 c hc⟩
    have H5:=H4.ext x5
    have ecv:convV .i64 (.int .u64 (NM:Int))=some (.int .i64 (NM:Int)):=by rw[qhq,qDq (by omega)]
    have hs5:=Sl.ext x5 ho.sl
    have hsK:RoS K v':=fun f hf=>hA.fresh f (by have:=(own_into ho hf).1;have:=x2.next;omega)
    simp[hap,unOf,ecv,qaq,allKnown,hs5.allKnown,-qhq]
    refine (hadd_spec H5 hs5 hsK (H5.ok.add (rec:=rec) (mark:=NM) hm hokc hfr (by omega) (by omega)) (by omega) (by omega)).mono fun r B6 ⟨hr,m6,H6⟩=>?_
    subst hr
    rw[hload]
    simp
    exact⟨(Mod.of_ext x25).trans m6,H6⟩
   ·rw[if_pos hap] at hload
    rw[hload]
    simp[hap,unOf,qaq,allKnown]
    refine (new_spec (e:=5) (by decide)).mono fun r B ⟨x3,h1⟩=>?_
    obtain⟨t,u,rfl⟩:=h1.isIface
    simp[qaq,allKnown]
    refine (name_spec h1).mono fun r C ⟨x6,h2⟩=>?_
    obtain⟨t,u,rfl⟩:=h2.isIface
    simp
    exact⟨Mod.of_ext ((x25.trans x3).trans x6),1,t,u,5,Nat.le_refl _,rfl,by decide,h2.mono (Nat.zero_le _)⟩
end
def loadsH:HeD→Nat→List (List UInt8)→Option HeD
 | d,_,[]=>some d
 | d,i,w::l=>match d.load ((i+1:Nat):Int) w with
  | some d'=>loadsH d' (i+1) l
  | none=>none
def startH (jd:JoD):Option HeD:=if jd.state=[] then some ⟨jd,[],0,0,0⟩ else HeD.load ⟨jd,[],0,0,0⟩ 0 jd.state
def HeD.opened (jd:JoD):Option HeD:=
 match startH jd with
 | some d=>(match loadsH d 0 jd.recs with|some d'=>some { d' with recs:=jd.recs.length }|none=>none)
 | none=>none
theorem load_few {d d':HeD} {rec:Int} {w:List UInt8} (h:d.load rec w=some d'):d'.idx.length≤d.idx.length+4096∧d'.all≤d.all+4096∧d'.jd=d.jd:=by
 unfold HeD.load at h
 split at h
 ·rename_i m l hr
  split at h
  ·cases h
  ·cases h
   have hl:l.length≤4096:=by
    unfold recP at hr
    split at hr
    ·split at hr
     ·cases hr
     ·split at hr
      ·rename_i hd
       cases hr
       exact (decC_ok hd).1
      ·cases hr
    ·cases hr
   have h1:=addI_length (rec:=rec) (l:=l) (x:=d.idx)
   refine⟨?_,?_,rfl⟩
   ·show (addI rec d.idx l).length≤_
    omega
   ·show d.all+l.length≤_
    omega
 ·cases h
def kTwo (K:Nat→Nat) (n c:Nat):Nat→Nat:=fun f=>if f=n∨f=n+1 then c else K f
def OpenR (b:Nat) (K:Nat→Nat) (B:St) (p m:Nat) (jd:JoD) (r:AV):Prop:=match HeD.opened jd with
 | some d=>∃ h j,r=.tuple [.ptr (some (h,0,0)),.int .i64 0]∧HpC b K B h j p m d
 | none=>r=.tuple [.ptr none,.int .i64 6]
section
variable {D:Disp} {G0:Env} {X:Calls'} {A0:St}
theorem hopen_spec (HX:RowsX X A0) (HC:RowsC X) (HI:RowsI X) (HK:RowsK X) {b:Nat} {K:Nat→Nat} {A:St} (hA:Wld K A0 A) {p m:Nat} {t:TpD} (ht:TpC b K A p m t) {seg:Int} (hs:16≤seg∧seg≤1048576) {jd:JoD} (hj:joOpen t seg=(0,some jd)) (hrn:jd.recs.length≤200) :
  Ev D G0 fnsL X 24 [.ptr (some (p,0,0)),.int .i64 seg] A fun r B=>∃ K',KUp K K' A∧Wld K' A0 B∧Mod (HW b K) A B∧OpenR b K' B p m jd r:=by
 refine Ev.fnK (fn:=a24) rfl ⟨by simp[a24],by decide⟩ ?_
 unfold a24
 simp[qaq,allKnown]
 refine (jopen_spec HX hA ht hs).mono fun r B ⟨K1,u1,w1,m1,hr⟩=>?_
 rw[hj] at hr
 obtain⟨hr,hJ⟩:=hr
 subst hr
 have xp:B.Ext (B.push (.map [] 0)):=ext_push _ _
 have hmN:=mapE_new AV.str B
 have xb:=qdq (B.push (.map [] 0)) [.ptr (some (A.next,0,0)),.map (some B.next),.int .i64 0,.int .i64 0,.int .i64 0] 1
 have hbx:=Cl.make (B.push (.map [] 0)) [.ptr (some (A.next,0,0)),.map (some B.next),.int .i64 0,.int .i64 0,.int .i64 0]
 have hnx:(B.push (.map [] 0)).next=B.next+1:=rfl
 have hnb:((B.push (.map [] 0)).make [.ptr (some (A.next,0,0)),.map (some B.next),.int .i64 0,.int .i64 0,.int .i64 0] 1).2.next=B.next+2:=rfl
 simp[eff_mkMap,fillA,splice,aggV,AV.isBot,AV.cells,boxV,Made.value]
 generalize ((B.push (.map [] 0)).make [.ptr (some (A.next,0,0)),.map (some B.next),.int .i64 0,.int .i64 0,.int .i64 0] 1).2=C at *
 have xC:=xp.trans xb
 have u2:KUp K1 (kTwo K1 B.next (b+3)) B:=fun f hf=>by unfold kTwo;rw[if_neg (by omega)]
 have hF2:KFresh (kTwo K1 B.next (b+3)) C:=fun f hf=>by unfold kTwo;rw[if_neg (by omega)];exact w1.fresh f (by omega)
 have hW2:Wld (kTwo K1 B.next (b+3)) A0 C:=⟨w1.glob.trans xC,fun f hf=>by rw[u2 f (Nat.lt_of_lt_of_le hf w1.glob.next)];exact w1.low f hf,hF2⟩
 have u12:KUp K (kTwo K1 B.next (b+3)) A:=KUp.trans u1 u2 m1.next
 obtain⟨K2,hK2⟩:∃ K2,K2=kTwo K1 B.next (b+3):=⟨_,rfl⟩
 have k1:K2 B.next=b+3:=by rw[hK2];unfold kTwo;rw[if_pos (.inl rfl)]
 have k2:K2 (B.next+1)=b+3:=by rw[hK2];unfold kTwo;rw[if_pos (.inr rfl)]
 rw[←hK2] at u2 hF2 hW2 u12
 have H0:HpC b K2 C (B.next+1) A.next p m ⟨jd,[],0,0,0⟩:=
  ⟨(hJ.up u2).ext xC,⟨B.next,[],0,by rw[←hnx];exact hbx,hmN.ext xb,trivial,k1,by omega⟩,k2,(HpOk.blank (d:=⟨jd,[],0,0,0⟩) ⟨idx_nil,fun k hk=>by simp[keysA] at hk,fun k e he=>by simp[assoc] at he,Nat.zero_le _,Nat.zero_le _,by simp,by simp,by simp⟩ jd)⟩
 have mAC:Mod (HW b K) A C:=(m1.mono fun f _ hf=>hf.hw).trans (Mod.of_ext xC)
 obtain⟨hh,hhh⟩:∃ hh,hh=B.next+1:=⟨_,rfl⟩
 rw[←hhh] at H0 k2 ⊢
 simp[qaq,allKnown]
 refine (state_spec ((hJ.up u2).ext xC)).mono fun sv C1 ⟨x3,hsv⟩=>?_
 have hsl:=Bs.lenV hsv.sl
 have H1:=H0.ext x3
 have hW3:=hW2.ext x3
 have eg:binOf .gtr (.int .i64 (jd.state.length:Int)) (.int .i64 0)=some (.bool (decide (0<jd.state.length))):=by
  rw[qfq]
  congr 2
  rw[decide_eq_decide]
  omega
 simp[hsv.sl.known,-Go.AM.wp_seq]
 rw[←Go.AM.wp_seq]
 have hfin:∀ {r:AV} {B':St},HeD.opened jd=none→Mod (HW b K2) C B'→r=.tuple [.ptr none,.int .i64 6]→∃ K',KUp K K' A∧Wld K' A0 B'∧Mod (HW b K) A B'∧OpenR b K' B' p m jd r:=fun {r B'} ho m hr=>by
  unfold OpenR
  rw[ho]
  exact⟨K2,u12,hW2.mod m fun f hf=>hf.ne0,HW_new u12 mAC m,hr⟩
 refine wp_cut1 (fun E C2=>Mod (HW b K2) C C2∧Env.at E 6=.ptr (some (A.next,0,0))∧Env.at E 8=.ptr (some (hh,0,0))∧∃ d1,startH jd=some d1∧d1.idx.length≤4096∧d1.all≤4096∧d1.jd=jd∧HpC b K2 C2 hh A.next p m d1) ?_ ?_
 ·by_cases h0:jd.state=[]
  ·have hst:startH jd=some ⟨jd,[],0,0,0⟩:=by unfold startH;rw[if_pos h0]
   have hl0:(0:Nat)<jd.state.length↔False:=by simp[h0]
   rw[show decide (0<jd.state.length)=false from decide_eq_false (by simp[h0])] at eg
   simp[hsl,eg,-qfq]
   exact⟨Mod.of_ext x3,_,hst,by simp,by simp,rfl,H1⟩
  ·have hst:startH jd=HeD.load ⟨jd,[],0,0,0⟩ 0 jd.state:=by unfold startH;rw[if_neg h0]
   rw[show decide (0<jd.state.length)=true from decide_eq_true (List.length_pos_iff.2 h0)] at eg
   simp[hsl,eg,qaq,allKnown,hsv.sl.allKnown,-qfq]
   refine (hload_spec HX HC HI HK hW3 H1 hsv.sl hJ.ok.state (by simp) (by simp)).mono fun r C2 ⟨m2,hr⟩=>?_
   have m3:Mod (HW b K2) C C2:=(Mod.of_ext x3).trans m2
   cases hld:HeD.load ⟨jd,[],0,0,0⟩ 0 jd.state with
   | some d'=>
    rw[hld] at hr
    obtain⟨rfl,H2⟩:=hr
    obtain⟨q1,q2,q3⟩:=load_few hld
    simp[eqV,eqOf]
    exact⟨m3,d',by rw[hst,hld],by simpa using q1,by simpa using q2,q3,H2⟩
   | none=>
    rw[hld] at hr
    obtain⟨k,ty,u,e,hk,rfl,he,hE⟩:=hr
    have ho:HeD.opened jd=none:=by unfold HeD.opened;rw[hst,hld]
    simp[eqV,eqOf]
    exact hfin ho m3 rfl
 ·rintro E C2 ⟨m2,e6,e8,d1,hd1,hf1,hf2,hf3,H2⟩
  have hW4:=hW2.mod m2 fun f hf=>hf.ne0
  have hJ4:=H2.jo
  rw[hf3] at hJ4
  simp[e6,qaq,allKnown]
  refine (recs_spec hJ4 (by omega)).mono fun rv C3 ⟨x5,ps,hrs,hps,hrn1,hrn2⟩=>?_
  have H3:=H2.ext x5
  have hW5:=hW4.ext x5
  have hro:RoS K2 rv:=fun f hf=>hW4.fresh f (hrn1 f hf)
  have hrp:∀ v∈ps,RoS K2 v:=fun v hv f hf=>hW4.fresh f (hrn2 v hv f hf)
  have hlv:=hrs.lenV1
  have hpl:=hps.length
  rw[hpl] at hlv
  simp[hlv]
  refine Wp.loopK (fun q E A'=>Mod (HW b K2) C3 A'∧Env.at E 6=.ptr (some (A.next,0,0))∧Env.at E 8=.ptr (some (hh,0,0))∧Env.at E 38=rv∧Env.at E 39=.int .i64 jd.recs.length∧∃ (i:Nat) (di:HeD),Env.at E 40=.int .i64 i∧i≤jd.recs.length∧i+q=jd.recs.length∧HpC b K2 A' hh A.next p m di∧di.idx.length≤4096*(i+1)∧di.all≤4096*(i+1)∧di.jd=jd∧loadsH d1 0 jd.recs=loadsH di i (jd.recs.drop i)) jd.recs.length ?_ ?_
  ·exact⟨Mod.refl _,by simp[e6],by simp[e8],by simp,by simp,0,d1,by simp,Nat.zero_le _,by simp,H3,by omega,by omega,hf3,by simp⟩
  rintro q E A' ⟨m6,e6,e8,e38,e39,i,di,e40,q1,q2,Hi,i1,i2,i3,hlo⟩
  have hWi:=hW5.mod m6 fun f hf=>hf.ne0
  have hrsA:Sl A' 1 rv ps:=Sl.mod hrs m6 fun f hf hW=>hW.ne0 (hro f hf)
  have hpsA:PartsB A' ps jd.recs:=PartsB.mod m6 hps fun v hv f hf hW=>hW.ne0 (hrp v hv f hf)
  simp[e39,e40,qoq,-qjq]
  refine qeq (fun hc=>?_) (fun hc=>?_)
  ·simp at hc
   obtain⟨v,w,hv1,hw1,hvw⟩:=hpsA.get (i:=i) (by omega)
   obtain⟨p',g1,g2⟩:=hrsA.at_one hv1 .i64
   have ea:=add_one (i:=i) (by omega)
   have hdr:jd.recs.drop i=w::jd.recs.drop (i+1):=by
    rw[List.drop_eq_getElem_cons hc]
    rw[List.getElem?_eq_getElem hc] at hw1
    cases hw1
    rfl
   rw[hdr] at hlo
   simp only[loadsH] at hlo
   have hwl:w.length<2^40:=hJ.ok.recs w (List.mem_of_getElem? hw1)
   simp[e6,e8,e38,e40,g1,g2,ea,qaq,allKnown,hvw.allKnown,-qbq,-Int.natCast_add]
   refine (hload_spec HX HC HI HK hWi Hi hvw hwl (rec:=((i+1:Nat):Int)) (by omega) (by omega)).mono fun r C4 ⟨m7,hr⟩=>?_
   have m67:=m6.trans m7
   cases hld:di.load ((i+1:Nat):Int) w with
   | some d'=>
    rw[hld] at hr hlo
    obtain⟨rfl,H5⟩:=hr
    obtain⟨z1,z2,z3⟩:=load_few hld
    simp[qaq,allKnown,-Int.natCast_add]
    refine at_nil.mono fun r C5 ⟨hB,hr⟩=>?_
    subst hB hr
    simp[eqV,eqOf,e6,e8,e38,e39,e40,ea,-qbq,-Int.natCast_add]
    exact⟨q - 1,by omega,m67,i+1,by omega,by omega,by omega,d',H5,by omega,by omega,z3.trans i3,hlo⟩
   | none=>
    rw[hld] at hr hlo
    obtain⟨k,ty,u,e,hk,rfl,he,hE⟩:=hr
    have ho:HeD.opened jd=none:=by
     unfold HeD.opened
     rw[hd1]
     simp only[hlo]
    simp[qaq,allKnown,-Int.natCast_add]
    refine (at_spec hE).mono fun r C5 ⟨x8,h9⟩=>?_
    obtain⟨t9,u9,rfl⟩:=h9.isIface
    simp[eqV,eqOf]
    exact hfin ho (((m2.trans (Mod.of_ext x5)).trans m67).trans (Mod.of_ext x8)) rfl
  ·simp at hc
   have hil:i=jd.recs.length:=by omega
   rw[hil,List.drop_length] at hlo
   simp only[loadsH] at hlo
   have hJi:=Hi.jo
   rw[i3] at hJi
   simp[e6,e8,qaq,allKnown]
   refine (jlen_spec hJi).mono fun r C4 ⟨hB,hr⟩=>?_
   subst hB hr
   obtain⟨C5,s1,s2,H6⟩:=Hi.setRecs (n:=jd.recs.length) (by omega)
   simp[AV.addr,e8,s1]
   have ho:HeD.opened jd=some { di with recs:=jd.recs.length }:=by
    unfold HeD.opened
    rw[hd1]
    simp only[hlo]
   have mf:Mod (HW b K2) C C5:=((m2.trans (Mod.of_ext x5)).trans m6).trans (s2.mono fun f _ hf=>by subst hf;exact .inr (.inr k2))
   refine⟨K2,u12,hW2.mod mf fun f hf=>hf.ne0,HW_new u12 mAC mf,?_⟩
   unfold OpenR
   rw[ho]
   exact⟨hh,A.next,rfl,H6⟩
end
end Go.Proofs.YtlaoookdegmnnaaGreatDoor
namespace Go.AM
section
variable {α:Type} {n:Nat} {R:Rec α n} {A:St} {s:AV} {l:List α}
theorem append_rec' {lo bytes:Nat} (h:Own lo A n s (R.all l)) (hlo:lo≤A.next) (hl:(l.length+1)*bytes≤70368744177664) (hl':l.length+1≤70368744177664) (o:α) :
  ∃ s' B,appendV (A.make (R.cells o) n).2 false n bytes s (.slice (some (A.next,0,0)) 0 1 1 0)=some (s',B)∧Own lo B n s' (R.all (l++[o]))∧Mod (fun f=>s.into f=true) A B∧∀ f,s'.into f=true→s.into f=true∨A.next≤f:=by
 have hx:=qdq A (R.cells o) n
 have h1:=h.ext hx
 have h2:=(own_rec R A o).sl
 have hn:s.slen=l.length:=h.sl.rec_len
 obtain⟨s',B,g1,g2,g3,g4,g5⟩:=qpq (bytes:=bytes) h1 h2 (Nat.le_trans hlo hx.next) R.pos (R.allFlat _) (by rw[hn,qnq];exact hl) (by rw[hn,qnq];exact hl')
 refine⟨s',B,g1,by rw[R.append];exact g3,⟨Nat.le_trans hx.next g4.next,fun f hf hw=>?_⟩,fun f hf=>?_⟩
 ·rw[g4.get f (Nat.lt_of_lt_of_le hf hx.next) (by simpa using hw)]
  exact hx.get f hf
 ·rcases g5 f hf with h3|h3
  ·exact .inl h3
  ·have:=hx.next;exact .inr (by omega)
theorem Mod.own_ext {lo:Nat} {A0 B:St} {cs:List AV} (h:Own lo A n s cs) (m:Mod (fun f=>s.into f=true) A B) (x:A0.Ext A) (hlo:A0.next≤lo):A0.Ext B:=
 ⟨Nat.le_trans x.next m.next,fun f hf=>by rw[m.get f (Nat.lt_of_lt_of_le hf x.next) (fun hw=>by have:=(own_into h hw).1;omega)];exact x.get f hf⟩
end
end Go.AM
namespace Go.Proofs.YtlaoookdegmnnaaGreatDoor
open Go.AM
def wr (x:ChD):Bool→List RowD→List RowD
 | true,[]=>[]
 | false,[]=>[x.row]
 | true,r::l=>if r.key=x.key then wr x true l else r::wr x true l
 | false,r::l=>if bytesLess r.key x.key=true then (if r.key=x.key then wr x false l else r::wr x false l) else x.row::(if r.key=x.key then wr x true l else r::wr x true l)
theorem wr_all {x:ChD}:∀ {l:List RowD},(∀ r∈l,r.key≠x.key)→wr x true l=l
 | [],_=>rfl
 | r::l,h=>by
  unfold wr
  rw[if_neg (h r List.mem_cons_self),wr_all fun q hq=>h q (List.mem_cons_of_mem _ hq)]
theorem wr_with {x:ChD}:∀ {l:List RowD},Up l→wr x (!x.there) l=withL l x
 | [],_=>by
  unfold withL
  cases x.there<;>rfl
 | r::l,h=>by
  have h':=List.pairwise_cons.1 h
  have ih:=wr_with (x:=x) h'.2
  unfold withL
  by_cases hk:r.key=x.key
  ·have hno:∀ q∈l,q.key≠x.key:=fun q hq he=>by
    have:=h'.1 q hq
    rw[hk,he,qEq] at this
    cases this
   rw[if_pos hk]
   cases ht:x.there with
   | true=>
    show (if bytesLess r.key x.key=true then _ else x.row::(if r.key=x.key then wr x true l else r::wr x true l))=_
    rw[if_neg (by rw[hk,qEq];simp),if_pos hk,wr_all hno]
    rfl
   | false=>
    show (if r.key=x.key then wr x true l else r::wr x true l)=_
    rw[if_pos hk,wr_all hno]
    rfl
  ·rw[if_neg hk]
   by_cases hlt:bytesLess x.key r.key=true
   ·have hno:∀ q∈l,q.key≠x.key:=fun q hq he=>by
     have:=less_trans hlt (h'.1 q hq)
     rw[he,qEq] at this
     cases this
    rw[if_pos hlt]
    cases ht:x.there with
    | true=>
     show (if bytesLess r.key x.key=true then _ else x.row::(if r.key=x.key then wr x true l else r::wr x true l))=_
     rw[if_neg (by rw[less_asymm hlt];simp),if_neg hk,wr_all hno]
     rfl
    | false=>
     show (if r.key=x.key then wr x true l else r::wr x true l)=_
     rw[if_neg hk,wr_all hno]
     rfl
   ·rw[if_neg hlt]
    have hlt':bytesLess r.key x.key=true:=less_total (fun e=>hk e.symm) (by simpa using hlt)
    cases ht:x.there with
    | true=>
     rw[ht] at ih
     show (if bytesLess r.key x.key=true then (if r.key=x.key then wr x false l else r::wr x false l) else _)=_
     rw[if_pos hlt',if_neg hk]
     exact congrArg _ ih
    | false=>
     rw[ht] at ih
     show (if r.key=x.key then wr x true l else r::wr x true l)=_
     rw[if_neg hk]
     exact congrArg _ ih
theorem wr_len {x:ChD}:∀ (b:Bool) (l:List RowD),(wr x b l).length≤l.length+1
 | true,[]=>by simp[wr]
 | false,[]=>by simp[wr]
 | true,r::l=>by
  have:=wr_len (x:=x) true l
  unfold wr
  split<;>simp<;>omega
 | false,r::l=>by
  have h1:=wr_len (x:=x) true l
  have h2:=wr_len (x:=x) false l
  have h3:(wr x true l).length≤l.length:=by
   clear h1 h2
   induction l with
   | nil=>simp[wr]
   | cons q l ih=>unfold wr;split<;>simp<;>omega
  unfold wr
  split
  ·split<;>simp<;>omega
  ·split<;>simp<;>omega
def WInv (lo:Nat) (A:St) (o v:AV) (T:Bool→List RowD→Prop):Prop:=∃ b u,v=.bool b∧AM.Own lo A 2 o (RowR.all u)∧T b u
section
variable {D:Disp} {G0:Env} {X:Calls'} {A0:St}
theorem geq_str (a c:List UInt8):binOf .geq (.str a) (.str c)=some (.bool (!bytesLess a c)):=rfl
theorem neq_str (a c:List UInt8):binOf .neq (.str a) (.str c)=some (.bool (!decide (a=c))):=by
 show some (AV.bool (!(a == c)))=_
 rw[Bool.beq_eq_decide_eq]
theorem with_spec {A:St} {s:AV} {l:List RowD} {x:ChD} (hs:Sl A 2 s (RowR.all l)) (hl:l.length≤1000) :
  Ev D G0 fnsL X 74 [s,.agg (ChR.cells x)] A fun r B=>A.Ext B∧AM.Own A.next B 2 r (RowR.all (wr x (!x.there) l)):=by
 refine Ev.fnK (fn:=a74) rfl ⟨by simp[a74],by decide⟩ ?_
 unfold a74
 have hlen:=hs.rec_lenV
 have x1:=qdq A (ChR.cells x) 1
 have c1:=Cl.make A (ChR.cells x)
 simp[boxV,Made.value]
 generalize (A.make (ChR.cells x) 1).2=A1 at *
 have l2:=c1.ld 2 (v:=.bool x.there) rfl
 simp[AV.addr,l2,unOf,hlen]
 obtain⟨in0,hin0⟩:∃ in0,in0=!x.there:=⟨_,rfl⟩
 rw[←hin0]
 refine Wp.loopK (fun q E A'=>A1.Ext A'∧Env.at E 3=.ptr (some (A.next,0,0))∧Env.at E 12=s∧Env.at E 13=.int .i64 l.length∧∃ i:Nat,Env.at E 14=.int .i64 i∧i≤l.length∧i+q=l.length∧WInv A1.next A' (Env.at E 5) (Env.at E 6) fun b u=>u.length≤2*i∧wr x in0 l=u++wr x b (l.drop i)) l.length ?_ ?_
 ·exact⟨St.Ext.refl _,by simp,by simp,by simp,0,by simp,Nat.zero_le _,by simp,in0,[],by simp[hin0],by simpa[Rec.all] using AM.Own.nil _ _ _,by simp,by simp⟩
 rintro q E A' ⟨xx,e3,e12,e13,i,e14,q1,q2,b,u,e6,ho,hu,hw⟩
 obtain⟨o,e5⟩:∃ o,Env.at E 5=o:=⟨_,rfl⟩
 rw[e5] at ho
 have hc1:=c1.ext xx
 have k0:=hc1.ld 0 (v:=.str x.key) rfl
 have k1:=hc1.ld 1 (v:=.int .i64 x.n) rfl
 have xA:=x1.trans xx
 simp[e13,e14,qoq,-qjq]
 refine qeq (fun hc=>?_) (fun hc=>?_)
 ·simp at hc
  obtain⟨r,hg⟩:∃ r,l[i]?=some r:=⟨l[i],List.getElem?_eq_getElem hc⟩
  have hdr:l.drop i=r::l.drop (i+1):=by
   rw[List.drop_eq_getElem_cons hc]
   rw[List.getElem?_eq_getElem hc] at hg
   cases hg
   rfl
  rw[hdr] at hw
  obtain⟨p',g1,g2⟩:=(Sl.ext xA hs).rec_at hg .i64
  obtain⟨C,w1,w2,w3⟩:=local_put A' (cs:=[.str [],.int .i64 0]) (n:=2) rfl (l:=RowR.cells r) rfl rfl
  have r0:=w3.ld 0 (v:=.str r.key) rfl
  have r1:loadV C 2 true (.ptr (some (A'.next,0,0)))=some (.agg (RowR.cells r)):=by
   have:=w3.lda 0 2 (by simp[RowR.len])
   rw[this]
   rfl
  have ea:=add_one (i:=i) (by omega)
  simp[-qbq] at ea
  have hcC:=hc1.ext w2
  have kc0:=hcC.ld 0 (v:=.str x.key) rfl
  have kc1:=hcC.ld 1 (v:=.int .i64 x.n) rfl
  have hus:o.slen=u.length:=ho.sl.rec_len
  have hoA:∀ f,o.into f=true→A1.next≤f∧f<A'.next:=fun f hf=>own_into ho hf
  have hA1n:=x1.next
  have hAn:A1.next≤A'.next:=xx.next
  simp only[Go.AM.wp_skip,seqK_normal,Go.AM.wp_seq,Go.AM.wp_block]
  simp[e12,e14,g1,g2,Made.value,w1,-Go.AM.wp_seq,-qbq]
  refine wp_cut1 (fun E1 C1=>Env.at E1 3=.ptr (some (A.next,0,0))∧Env.at E1 8=.ptr (some (A'.next,0,0))∧Env.at E1 12=s∧Env.at E1 13=.int .i64 l.length∧Env.at E1 14=.int .i64 i∧A1.Ext C1∧Cl C1 A'.next (RowR.cells r)∧(Env.at E1 5).into A'.next=false∧WInv A1.next C1 (Env.at E1 5) (Env.at E1 6) fun b1 u1=>u1.length≤2*i+1∧wr x in0 l=u1++(if r.key=x.key then wr x b1 (l.drop (i+1)) else r::wr x b1 (l.drop (i+1)))) ?_ ?_
  ·have hno:o.into A'.next=false:=by
    cases h:o.into A'.next with
    | false=>rfl
    | true=>have:=hoA _ h;omega
   cases b with
   | true=>
    simp[e3,e5,e6,e12,e13,e14,unOf,pickV,AV.addr,r0,kc0]
    exact⟨xx.trans w2,w3,hno,true,u,rfl,ho.ext w2,by omega,by rw[hw];simp only[wr]⟩
   | false=>
    cases hb:bytesLess r.key x.key with
    | true=>
     have eg:=geq_str r.key x.key
     rw[hb] at eg
     simp[e3,e5,e6,e12,e13,e14,unOf,pickV,AV.addr,r0,kc0,eg]
     exact⟨xx.trans w2,w3,hno,false,u,rfl,ho.ext w2,by omega,by rw[hw];simp only[wr,hb,if_true]⟩
    | false=>
     have eg:=geq_str r.key x.key
     rw[hb] at eg
     obtain⟨o2,C2,z1,z2,z3,z4⟩:=append_rec' (bytes:=24) (ho.ext w2) (by have:=w2.next;omega) (by omega) (by omega) x.row
     have z1':appendV (C.make [.str x.key,.int .i64 x.n] 2).2 false 2 24 o (.slice (some (C.next,0,0)) 0 1 1 0)=some (o2,C2):=z1
     simp[e3,e5,e6,e12,e13,e14,unOf,pickV,AV.addr,r0,kc0,kc1,eg,fillA,splice,AV.isBot,AV.cells,aggV,Made.value,z1']
     refine⟨z3.own_ext (ho.ext w2) (xx.trans w2) (Nat.le_refl _),w3.mod z3 (by rw[hno];simp),?_,true,u++[x.row],rfl,z2,by simp;omega,?_⟩
     ·cases h:o2.into A'.next with
      | false=>rfl
      | true=>
       rcases z4 _ h with h|h
       ·rw[hno] at h;cases h
       ·have:=w3.lt;omega
     ·rw[hw]
      simp only[wr,hb,Bool.false_eq_true,if_false,List.append_assoc,List.singleton_append]
  ·rintro E1 C1 ⟨f3,f8,f12,f13,f14,y1,y2,y4,b1,u1,f6,y3,y5,y6⟩
   obtain⟨o1,f5⟩:∃ o,Env.at E1 5=o:=⟨_,rfl⟩
   rw[f5] at y3 y4
   have hc2:=c1.ext y1
   have d0:=hc2.ld 0 (v:=.str x.key) rfl
   have r0':=y2.ld 0 (v:=.str r.key) rfl
   have r1':loadV C1 2 true (.ptr (some (A'.next,0,0)))=some (.agg (RowR.cells r)):=by
    have:=y2.lda 0 2 (by simp[RowR.len])
    rw[this]
    rfl
   have en:=neq_str r.key x.key
   have hyn:=y1.next
   by_cases hk:r.key=x.key
   ·rw[decide_eq_true hk] at en
    rw[if_pos hk] at y6
    simp[f3,f5,f6,f8,f12,f13,f14,AV.addr,r0',d0,en,ea,-qbq]
    exact⟨q - 1,by omega,y1,i+1,by omega,by omega,by omega,b1,u1,rfl,y3,by omega,y6⟩
   ·rw[decide_eq_false hk] at en
    rw[if_neg hk] at y6
    obtain⟨o2,C2,z1,z2,z3,z4⟩:=append_rec' (bytes:=24) y3 hyn (by omega) (by omega) r
    have z1':appendV (C1.make (RowR.cells r) 2).2 false 2 24 o1 (.slice (some (C1.next,0,0)) 0 1 1 0)=some (o2,C2):=z1
    have hcl:(AV.agg (RowR.cells r)).cells=RowR.cells r:=rfl
    simp[f3,f5,f6,f8,f12,f13,f14,AV.addr,r0',r1',d0,en,fillA,splice,AV.isBot,hcl,RowR.len,Made.value,z1',ea,-qbq]
    exact⟨q - 1,by omega,z3.own_ext y3 y1 (Nat.le_refl _),i+1,by omega,by omega,by omega,b1,u1++[r],rfl,z2,by simp;omega,by rw[y6];simp⟩
 ·simp at hc
  have hil:i=l.length:=by omega
  rw[hil,List.drop_length] at hw
  cases b with
  | true=>
   simp only[wr,List.append_nil] at hw
   rw[hw]
   simp[e5,e6,unOf,ho.sl.known]
   exact⟨xA,ho.mono x1.next⟩
  | false=>
   simp only[wr] at hw
   rw[hw]
   have hn1:=xx.next
   obtain⟨o2,C2,z1,z2,z3,z4⟩:=append_rec' (bytes:=24) ho hn1 (by omega) (by omega) x.row
   have z1':appendV (A'.make [.str x.key,.int .i64 x.n] 2).2 false 2 24 o (.slice (some (A'.next,0,0)) 0 1 1 0)=some (o2,C2):=z1
   simp[e3,e5,e6,unOf,AV.addr,k0,k1,fillA,splice,AV.isBot,AV.cells,aggV,Made.value,z1',z2.sl.known]
   exact⟨x1.trans (z3.own_ext ho xx (Nat.le_refl _)),z2.mono x1.next⟩
end
end Go.Proofs.YtlaoookdegmnnaaGreatDoor
