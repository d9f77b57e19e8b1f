/- Calls, as they come in: slices in slices of structs. -/
import Derived.Test.YtlaoookdegmnnaaGreatDoorHpDoc1
import Derived.Test.YtlaoookdegmnnaaGreatDoorAmStr
import Derived.Test.YtlaoookdegmnnaaGreatDoorAmArg
import Derived.Test.YtlaoookdegmnnaaGreatDoorStFrames
set_option maxRecDepth 100000
set_option linter.unusedSimpArgs false
set_option linter.unusedVariables false
namespace Go.Proofs.YtlaoookdegmnnaaGreatDoor
open Go.AM
section
variable {D:Disp} {G0:Env} {X:Calls'} {A0:St}
def AppR (A:St) (s:AV) (rows:List RowD) (l:List ChD) (r:AV) (B:St):Prop:=A.Ext B∧∃ v,r=.tuple [v,.int .i64 (applyL rows l).1]∧Sl B 2 v (RowR.all (applyL rows l).2)∧∀ f,v.into f=true→s.into f=true∨A.next≤f
theorem apply_spec {A:St} {s c:AV} {rows:List RowD} {l:List ChD} (hs:Sl A 2 s (RowR.all rows)) (hu:Up rows) (hr:rows.length≤256) (hc:Sl A 3 c (ChR.all l)) (hl:l.length<2^40) :
  Ev D G0 fnsL X 20 [s,c] A (AppR A s rows l):=by
 refine Ev.fnK (fn:=a20) rfl ⟨by simp[a20],by decide⟩ ?_
 unfold a20
 have hlen:=hc.rec_lenV
 simp[hlen]
 refine Wp.loopK (fun q E A'=>A.Ext A'∧Env.at E 0=s∧Env.at E 1=c∧Env.at E 11=c∧Env.at E 12=.int .i64 l.length∧∃ i:Nat,Env.at E 13=.int .i64 i∧i≤l.length∧i+q=l.length∧allOk (l.take i)=true) l.length ?_ ?_
 ·exact⟨St.Ext.refl _,by simp,by simp,by simp,by simp,0,by simp,Nat.zero_le _,by simp,rfl⟩
 rintro q E A' ⟨x,e0,e1,e11,e12,i,e13,q1,q2,hok⟩
 simp[e12,e13,qoq,-qjq]
 refine qeq (fun hd=>?_) (fun hd=>?_)
 ·simp at hd
  have hg:l[i]?=some l[i]:=List.getElem?_eq_getElem hd
  obtain⟨p',g1,g2⟩:=(Sl.ext x hc).rec_at hg .i64
  obtain⟨C,w1,w2,w3⟩:=local_put A' (cs:=[.str [],.int .i64 0,.bool false]) (n:=3) rfl (l:=ChR.cells l[i]) rfl rfl
  have l0:=w3.ld 0 (v:=.str l[i].key) rfl
  have l1:=w3.ld 1 (v:=.int .i64 l[i].n) rfl
  have l2:=w3.ld 2 (v:=.bool l[i].there) rfl
  have ea:=add_one (i:=i) (by omega)
  simp[-qbq] at ea
  have htk:l.take (i+1)=l.take i++[l[i]]:=by rw[List.take_add_one,hg];rfl
  have hgt:binOf .gtr (.int .i64 (l[i].key.length:Int)) (.int .i64 16)=some (.bool (decide (16<l[i].key.length))):=by
   rw[qfq]
   congr 2
   rw[decide_eq_decide]
   omega
  have xx:=x.trans w2
  have stop:okC l[i]=false→AppR A s rows l (.tuple [s,.int .i64 2]) C:=fun hk=>by
   have ha:applyL rows l=(2,rows):=by
    unfold applyL
    rw[if_neg]
    intro h
    rw[List.all_eq_true] at h
    rw[h _ (List.getElem_mem hd)] at hk
    cases hk
   unfold AppR
   rw[ha]
   exact⟨xx,s,rfl,Sl.ext xx hs,fun f hf=>.inl hf⟩
  have hnx:∀ {b:Bool},okC l[i]=true→allOk (l.take (i+1))=true:=fun {b} hk=>by unfold allOk at hok ⊢;rw[htk,List.all_append,hok];simp[hk]
  by_cases hk:16<l[i].key.length
  ·rw[decide_eq_true hk] at hgt
   have hbad:okC l[i]=false:=by unfold okC;rw[decide_eq_false (by omega)];rfl
   simp[e0,e11,e13,g1,g2,Made.value,w1,AV.addr,l0,lenStrV,hgt,pickV,(Sl.known hs),-qbq,-qfq]
   exact stop hbad
  ·rw[decide_eq_false hk] at hgt
   cases ht:l[i].there with
   | true=>
    have hgood:okC l[i]=true:=by unfold okC;rw[decide_eq_true (by omega),ht];rfl
    rw[ht] at l2
    simp[e0,e1,e11,e12,e13,g1,g2,Made.value,w1,AV.addr,l0,l2,lenStrV,hgt,unOf,pickV,ea,-qbq,-qfq]
    exact⟨q - 1,by omega,xx,i+1,by omega,by omega,by omega,hnx (b:=true) hgood⟩
   | false=>
    rw[ht] at l2
    by_cases hz:l[i].n=0
    ·have hgood:okC l[i]=true:=by unfold okC;rw[decide_eq_true (by omega),ht,decide_eq_true hz];rfl
     rw[hz] at l1
     simp[e0,e1,e11,e12,e13,g1,g2,Made.value,w1,AV.addr,l0,l1,l2,lenStrV,hgt,unOf,pickV,ea,-qbq,-qfq]
     exact⟨q - 1,by omega,xx,i+1,by omega,by omega,by omega,hnx (b:=true) hgood⟩
    ·have hbad:okC l[i]=false:=by unfold okC;rw[decide_eq_true (by omega),ht,decide_eq_false hz];rfl
     simp[e0,e1,e11,e12,e13,g1,g2,Made.value,w1,AV.addr,l0,l1,l2,lenStrV,hgt,unOf,pickV,hz,(Sl.known hs),-qbq,-qfq]
     exact stop hbad
 ·simp at hd
  have hil:i=l.length:=by omega
  rw[hil,List.take_length] at hok
  have hcl:Sl A' 3 c (ChR.all l):=Sl.ext x hc
  have hlen:=hcl.rec_lenV
  have happ:applyL rows l=match foldC rows l with|some r=>(0,r)|none=>(5,rows):=by
   unfold applyL
   rw[if_pos (show l.all okC=true from hok)]
   cases foldC rows l<;>rfl
  simp[e0,e1,hlen]
  refine Wp.loopK (fun q E A2=>A.Ext A2∧Env.at E 0=s∧Env.at E 34=c∧Env.at E 35=.int .i64 l.length∧∃ i:Nat,Env.at E 36=.int .i64 i∧i≤l.length∧i+q=l.length∧∃ w,foldC rows (l.take i)=some w∧Sl A2 2 (Env.at E 8) (RowR.all w)∧∀ f,(Env.at E 8).into f=true→s.into f=true∨A.next≤f) l.length ?_ ?_
  ·exact⟨x,by simp[e0],by simp,by simp,0,by simp,Nat.zero_le _,by simp,rows,rfl,by simpa using Sl.ext x hs,by simp;exact fun f hf=>.inl hf⟩
  rintro q E A2 ⟨x,e0,e34,e35,i,e36,q1,q2,w,hw,hsw,hin⟩
  obtain⟨o,e8⟩:∃ o,Env.at E 8=o:=⟨_,rfl⟩
  rw[e8] at hsw hin
  have huw:Up w:=fold_up hu hw
  have hlw:w.length≤256:=fold_len hr hw
  simp[e35,e36,qoq,-qjq]
  refine qeq (fun hd=>?_) (fun hd=>?_)
  ·simp at hd
   have hg:l[i]?=some l[i]:=List.getElem?_eq_getElem hd
   obtain⟨p',g1,g2⟩:=(Sl.ext x hc).rec_at hg .i64
   obtain⟨C,w1,w2,w3⟩:=local_put A2 (cs:=[.str [],.int .i64 0,.bool false]) (n:=3) rfl (l:=ChR.cells l[i]) rfl rfl
   have l3:loadV C 3 true (.ptr (some (A2.next,0,0)))=some (.agg (ChR.cells l[i])):=by
    have:=w3.lda 0 3 (by simp[ChR.len])
    rw[this]
    rfl
   have ea:=add_one (i:=i) (by omega)
   simp[-qbq] at ea
   have hsC:=Sl.ext w2 hsw
   have hstep:=fold_take_succ hw hg
   simp[e8,e34,e36,g1,g2,Made.value,w1,AV.addr,l3,qaq,allKnown,hsC.allKnown,-qbq]
   refine (with_spec hsC (by omega)).mono fun r C2 ⟨x3,hr2⟩=>?_
   rw[wr_with huw] at hr2
   have hlr:=hr2.sl.rec_lenV
   have xx:=(x.trans w2).trans x3
   have hwl:(withL w l[i]).length<2^40:=by
    have:=wr_len (x:=l[i]) (!l[i].there) w
    rw[wr_with huw] at this
    omega
   have hgt:binOf .gtr (.int .i64 ((withL w l[i]).length:Int)) (.int .i64 256)=some (.bool (decide (256<(withL w l[i]).length))):=by
    rw[qfq]
    congr 2
    rw[decide_eq_decide]
    omega
   by_cases hbig:256<(withL w l[i]).length
   ·rw[decide_eq_true hbig] at hgt
    rw[if_pos hbig] at hstep
    rw[fold_take_none hstep] at happ
    simp only at happ
    simp[hlr,hgt,e0,(Sl.known hs),-qfq]
    unfold AppR
    rw[happ]
    exact⟨xx,s,rfl,Sl.ext xx hs,fun f hf=>.inl hf⟩
   ·rw[decide_eq_false hbig] at hgt
    rw[if_neg hbig] at hstep
    simp[hlr,hgt,e0,e34,e35,e36,ea,-qfq,-qbq]
    exact⟨q - 1,by omega,xx,i+1,by omega,by omega,by omega,_,hstep,hr2.sl,fun f hf=>.inr (Nat.le_trans (x.trans w2).next (own_into hr2 hf).1)⟩
  ·simp at hd
   have hil:i=l.length:=by omega
   rw[hil,List.take_length] at hw
   rw[hw] at happ
   simp only at happ
   simp[e8,hsw.known]
   unfold AppR
   rw[happ]
   exact⟨x,o,rfl,hsw,hin⟩
end
end Go.Proofs.YtlaoookdegmnnaaGreatDoor
namespace Go.AM
theorem St.Ext.mod {W:Nat→Prop} {A B C:St} (x:A.Ext B) (m:Mod W B C) (h:∀ f,W f→A.next≤f):A.Ext C:=(((Mod.of_ext (W:=W) x).trans m).mono (W':=fun _=>False) (fun f hf hW=>by have:=h f hW;omega)).ext
end Go.AM
namespace Go.Proofs.YtlaoookdegmnnaaGreatDoor
open Go.AM
def rowNe (a c:RowD):Bool:=!(decide (a.key=c.key)&&decide (a.n=c.n))
theorem rowNe_iff {a c:RowD}:rowNe a c=true↔a≠c:=by
 obtain⟨k,n⟩:=a
 obtain⟨k',n'⟩:=c
 unfold rowNe
 simp
 exact⟨fun h hk=>h.resolve_left (fun g=>g hk),fun h=>by by_cases hk:k=k';exact .inr (h hk);exact .inl hk⟩
theorem eqAgg_rows {E:Env} {x y:Operand} {a c:RowD} (h1:ev E x=.agg (RowR.cells a)) (h2:ev E y=.agg (RowR.cells c)):pureOf E (.eqAgg true [.str,.int .i64] x y)=some (.bool (rowNe a c)):=by
 simp only[pureOf,h1,h2]
 show (match flatEqs [.str,.int .i64] [.str a.key,.int .i64 a.n] [.str c.key,.int .i64 c.n] with|some r=>some (AV.bool (bif true then !r else r))|none=>none)=_
 have e1:(a.key == c.key)=decide (a.key=c.key):=by rw[Bool.beq_eq_decide_eq]
 have e2:(a.n == c.n)=decide (a.n=c.n):=by rw[Bool.beq_eq_decide_eq]
 simp[flatEqs,keyOk,keySame,rowNe,e1,e2]
section
variable {D:Disp} {G0:Env} {X:Calls'} {A0:St}
@[simp] theorem opsD_eqAgg (neg:Bool) (ks:List KK) (x y:Operand) (d:Option Nat) (lo hi:Nat) (l:List (AOper × Nat × Nat)) (S:List St) (C:List St→Prop) (E:Env) (A:St) (Q:Ex→Env→St→Prop):OpsD D G0 fnsL X ((⟨d,.eqAgg neg ks x y,none⟩,lo,hi)::l) S C E A Q=contVD D G0 fnsL X (pureOf E (.eqAgg neg ks x y)) d l S C E A Q:=rfl
theorem same_spec {A:St} {s t:AV} {a c:List RowD} (hs:Sl A 2 s (RowR.all a)) (ht:Sl A 2 t (RowR.all c)) (hl:a.length<2^40) (hl2:c.length<2^40) :
  Ev D G0 fnsL X 26 [s,t] A fun r B=>A=B∧∃ b,r=.bool b∧(b=true↔a=c):=by
 refine Ev.fnK (fn:=a26) rfl ⟨by simp[a26],by decide⟩ ?_
 unfold a26
 have hla:=hs.rec_lenV
 have hlc:=ht.rec_lenV
 have en:binOf .neq (.int .i64 (a.length:Int)) (.int .i64 (c.length:Int))=some (.bool (decide (a.length≠c.length))):=by
  rw[bin_neq]
  congr 2
  rw[decide_eq_decide]
  omega
 by_cases hlen:a.length=c.length
 ·rw[show decide (a.length≠c.length)=false from decide_eq_false (by simp[hlen])] at en
  simp[hla,hlc,en,-bin_neq]
  refine Wp.loopK (fun q E A'=>A=A'∧Env.at E 0=s∧Env.at E 1=t∧Env.at E 12=.int .i64 a.length∧∃ i:Nat,Env.at E 13=.int .i64 i∧i≤a.length∧i+q=a.length∧a.take i=c.take i) a.length ?_ ?_
  ·exact⟨rfl,by simp,by simp,by simp,0,by simp,Nat.zero_le _,by simp,rfl⟩
  rintro q E A' ⟨rfl,e0,e1,e12,i,e13,q1,q2,heq⟩
  simp[e12,e13,qoq,-qjq]
  refine qeq (fun hd=>?_) (fun hd=>?_)
  ·simp at hd
   have hga:a[i]?=some a[i]:=List.getElem?_eq_getElem hd
   have hgc:c[i]?=some (c[i]'(by omega)):=List.getElem?_eq_getElem (by omega)
   obtain⟨p1,g1,g2⟩:=hs.rec_at hga .i64
   obtain⟨p2,g3,g4⟩:=ht.rec_at hgc .i64
   have ea:=add_one (i:=i) (by omega)
   simp[-qbq] at ea
   simp[e0,e1,e12,e13]
   refine Wp.draws ?_
   simp[e0,e1,g1,g2,g3,g4]
   rw[eqAgg_rows (a:=a[i]) (c:=c[i]'(by omega)) (by simp) (by simp)]
   have htk:a.take (i+1)=a.take i++[a[i]]:=by rw[List.take_add_one,hga];rfl
   have htk2:c.take (i+1)=c.take i++[c[i]'(by omega)]:=by rw[List.take_add_one,hgc];rfl
   have b1:AV.beq (.agg (RowR.cells a[i])) (.agg (RowR.cells a[i]))=true:=by simp[RowR,AV.beq,AV.beqs]
   have b2:AV.beq (.agg (RowR.cells (c[i]'(by omega)))) (.agg (RowR.cells (c[i]'(by omega))))=true:=by simp[RowR,AV.beq,AV.beqs]
   simp[InAll,g2,g4,b1,b2]
   refine qeq (fun hr=>?_) (fun hr=>?_)
   ·simp
    rintro rfl
    exact (rowNe_iff.1 hr) rfl
   ·have hac:a[i]=c[i]'(by omega):=Classical.byContradiction fun hn=>by rw[rowNe_iff.2 hn] at hr;cases hr
    simp[e0,e1,e12,e13,ea,-qbq]
    exact⟨q - 1,by omega,i+1,by omega,by omega,by omega,by rw[htk,htk2,heq,hac]⟩
  ·simp at hd
   have hil:i=a.length:=by omega
   rw[hil,List.take_length,hlen,List.take_length] at heq
   simp
   exact heq
 ·rw[show decide (a.length≠c.length)=true from decide_eq_true hlen] at en
  simp[hla,hlc,en,-bin_neq]
  intro h
  exact hlen (by rw[h])
def chgL (l:List ChD):List ChD:=(l.take 20).map fun x=>⟨x.key.take 20,x.n,x.there⟩
theorem chgL_len (l:List ChD):(chgL l).length≤20:=by unfold chgL;simp;omega
theorem changesG_spec {A:St} {s:AV} {l:List ChD} (hs:Sl A 3 s (ChR.all l)) (hl:l.length<2^63):Ev D G0 fnsL X 75 [s] A fun r B=>A.Ext B∧AM.Own A.next B 3 r (ChR.all (chgL l)):=by
 refine Ev.fnK (fn:=a75) rfl ⟨by simp[a75],by decide⟩ ?_
 unfold a75
 have hlen:=hs.rec_lenV
 simp[hlen]
 refine Wp.loopK (fun q E A'=>A.Ext A'∧Env.at E 6=s∧Env.at E 7=.int .i64 l.length∧∃ i:Nat,Env.at E 8=.int .i64 i∧i≤l.length∧i≤20∧i+q=l.length∧AM.Own A.next A' 3 (Env.at E 3) (ChR.all ((l.take i).map fun x=>⟨x.key.take 20,x.n,x.there⟩))) l.length ?_ ?_
 ·exact⟨St.Ext.refl _,by simp,by simp,0,by simp,Nat.zero_le _,Nat.zero_le _,by simp,by simpa[Rec.all] using AM.Own.nil _ _ _⟩
 rintro q E A' ⟨x,e6,e7,i,e8,q1,q3,q2,ho⟩
 obtain⟨o,e3⟩:∃ o,Env.at E 3=o:=⟨_,rfl⟩
 rw[e3] at ho
 simp[e7,e8,qoq,-qjq]
 refine qeq (fun hc=>?_) (fun hc=>?_)
 ·simp at hc
  have hg:l[i]?=some l[i]:=List.getElem?_eq_getElem hc
  obtain⟨p',g1,g2⟩:=(Sl.ext x hs).rec_at hg .i64
  obtain⟨C,w1,w2,w3⟩:=local_put A' (cs:=[.str [],.int .i64 0,.bool false]) (n:=3) rfl (l:=ChR.cells l[i]) rfl rfl
  have l0:=w3.ld 0 (v:=.str l[i].key) rfl
  have ea:=add_one (i:=i) (by omega)
  simp[-qbq] at ea
  have htk:l.take (i+1)=l.take i++[l[i]]:=by rw[List.take_add_one,hg];rfl
  have hge:binOf .geq (.int .i64 (i:Int)) (.int .i64 20)=some (.bool (decide (20≤i))):=by
   rw[bin_geq]
   congr 2
   rw[decide_eq_decide]
   omega
  by_cases h20:20≤i
  ·rw[decide_eq_true h20] at hge
   have hi:i=20:=by omega
   rw[hi] at ho
   simp[e3,e6,e8,g1,g2,Made.value,w1,hge,(ho.ext w2).sl.known,-bin_geq]
   exact⟨x.trans w2,ho.ext w2⟩
  ·rw[decide_eq_false h20] at hge
   have hus:((l.take i).map fun x:ChD=>(⟨x.key.take 20,x.n,x.there⟩:ChD)).length=i:=by simp;omega
   have hgt:binOf .gtr (.int .i64 (l[i].key.length:Int)) (.int .i64 20)=some (.bool (decide (20<l[i].key.length))):=by
    rw[qfq]
    congr 2
    rw[decide_eq_decide]
    omega
   have hno:o.into A'.next=false:=by
    cases h:o.into A'.next with
    | false=>rfl
    | true=>have:=(own_into ho h).2;omega
   by_cases hk:20<l[i].key.length
   ·rw[decide_eq_true hk] at hgt
    obtain⟨C2,s1,s2,s3⟩:=w3.stM 0 (by simp[ChR]) (v:=.str (l[i].key.take 20)) rfl rfl rfl
    have hcells:(ChR.cells l[i]).set 0 (.str (l[i].key.take 20))=ChR.cells ⟨l[i].key.take 20,l[i].n,l[i].there⟩:=rfl
    rw[hcells] at s3
    have hc20:cutStrV (.str l[i].key) none (some (.int .i64 20))=some (.str (l[i].key.take 20)):=by
     have hb:bound? l[i].key.length (.int .i64 20)=some 20:=by simp[bound?];omega
     simp[cutStrV,boundHi,boundLo,hb]
    have hld:loadV C2 3 true (.ptr (some (A'.next,0,0)))=some (.agg (ChR.cells ⟨l[i].key.take 20,l[i].n,l[i].there⟩)):=by
     have:=s3.lda 0 3 (by simp[ChR.len])
     rw[this]
     rfl
    have ho2:AM.Own A.next C2 3 o (ChR.all ((l.take i).map fun x=>⟨x.key.take 20,x.n,x.there⟩)):=Own_mod (ho.ext w2) s2 fun f hf hW=>by subst hW;rw[hno] at hf;cases hf
    obtain⟨o2,C3,z1,z2,z3,z4⟩:=append_rec' (bytes:=32) ho2 (Nat.le_trans (x.trans w2).next s2.next) (by rw[hus];omega) (by rw[hus];omega) ⟨l[i].key.take 20,l[i].n,l[i].there⟩
    simp[e3,e6,e7,e8,g1,g2,Made.value,w1,hge,AV.addr,l0,lenStrV,hgt,hc20,s1,hld,fillA,splice,AV.isBot,cells_agg,ChR.len,z1,ea,-bin_geq,-qfq,-qbq]
    refine⟨q - 1,by omega,z3.own_ext ho2 ((x.trans w2).mod s2 fun f hf=>by subst hf;exact x.next) (Nat.le_refl _),i+1,by omega,by omega,by omega,by omega,?_⟩
    rw[←List.map_take,htk,List.map_append]
    exact z2
   ·rw[decide_eq_false hk] at hgt
    have hke:l[i].key.take 20=l[i].key:=List.take_of_length_le (by omega)
    have hld:loadV C 3 true (.ptr (some (A'.next,0,0)))=some (.agg (ChR.cells l[i])):=by
     have:=w3.lda 0 3 (by simp[ChR.len])
     rw[this]
     rfl
    obtain⟨o2,C3,z1,z2,z3,z4⟩:=append_rec' (bytes:=32) (ho.ext w2) (x.trans w2).next (by rw[hus];omega) (by rw[hus];omega) l[i]
    simp[e3,e6,e7,e8,g1,g2,Made.value,w1,hge,AV.addr,l0,lenStrV,hgt,hld,fillA,splice,AV.isBot,cells_agg,ChR.len,z1,ea,-bin_geq,-qfq,-qbq]
    refine⟨q - 1,by omega,z3.own_ext (ho.ext w2) (x.trans w2) (Nat.le_refl _),i+1,by omega,by omega,by omega,by omega,?_⟩
    rw[←List.map_take,htk,List.map_append]
    simp only[List.map_cons,List.map_nil,hke]
    exact z2
 ·simp at hc
  have hil:i=l.length:=by omega
  rw[hil,List.take_length] at ho
  have hch:chgL l=l.map fun x=>⟨x.key.take 20,x.n,x.there⟩:=by unfold chgL;rw[List.take_of_length_le (by omega)]
  simp[e3,ho.sl.known]
  exact⟨x,by rw[hch];exact ho⟩
theorem ours_spec {A:St} {s:AV} {l:List ChD} (hs:Sl A 3 s (ChR.all l)) (hl:l.length<2^40):Ev D G0 fnsL X 22 [s] A fun r B=>A.Ext B∧AM.Own A.next B 3 r (ChR.all l):=by
 refine Ev.fnK (fn:=a22) rfl ⟨by simp[a22],by decide⟩ ?_
 unfold a22
 have hlen:=hs.rec_lenV
 simp[hlen]
 refine Wp.loopK (fun q E A'=>A.Ext A'∧Env.at E 6=s∧Env.at E 7=.int .i64 l.length∧∃ i:Nat,Env.at E 8=.int .i64 i∧i≤l.length∧i+q=l.length∧AM.Own A.next A' 3 (Env.at E 3) (ChR.all (l.take i))) l.length ?_ ?_
 ·exact⟨St.Ext.refl _,by simp,by simp,0,by simp,Nat.zero_le _,by simp,by simpa[Rec.all] using AM.Own.nil _ _ _⟩
 rintro q E A' ⟨x,e6,e7,i,e8,q1,q2,ho⟩
 obtain⟨o,e3⟩:∃ o,Env.at E 3=o:=⟨_,rfl⟩
 rw[e3] at ho
 simp[e7,e8,qoq,-qjq]
 refine qeq (fun hc=>?_) (fun hc=>?_)
 ·simp at hc
  have hg:l[i]?=some l[i]:=List.getElem?_eq_getElem hc
  obtain⟨p',g1,g2⟩:=(Sl.ext x hs).rec_at hg .i64
  obtain⟨C,w1,w2,w3⟩:=local_put A' (cs:=[.str [],.int .i64 0,.bool false]) (n:=3) rfl (l:=ChR.cells l[i]) rfl rfl
  have l0:=w3.ld 0 (v:=.str l[i].key) rfl
  have l1:=w3.ld 1 (v:=.int .i64 l[i].n) rfl
  have l2:=w3.ld 2 (v:=.bool l[i].there) rfl
  have ea:=add_one (i:=i) (by omega)
  simp[-qbq] at ea
  have htk:l.take (i+1)=l.take i++[l[i]]:=by rw[List.take_add_one,hg];rfl
  have hus:(l.take i).length=i:=by simp;omega
  obtain⟨o2,C3,z1,z2,z3,z4⟩:=append_rec' (bytes:=32) (ho.ext w2) (x.trans w2).next (by rw[hus];omega) (by rw[hus];omega) l[i]
  have z1':appendV (C.make [.str l[i].key,.int .i64 l[i].n,.bool l[i].there] 3).2 false 3 32 o (.slice (some (C.next,0,0)) 0 1 1 0)=some (o2,C3):=z1
  simp[e3,e6,e7,e8,g1,g2,Made.value,w1,AV.addr,l0,l1,l2,fillA,splice,AV.isBot,AV.cells,aggV,z1',ea,-qbq]
  exact⟨q - 1,by omega,z3.own_ext (ho.ext w2) (x.trans w2) (Nat.le_refl _),i+1,by omega,by omega,by omega,by rw[htk];exact z2⟩
 ·simp at hc
  have hil:i=l.length:=by omega
  rw[hil,List.take_length] at ho
  simp[e3,ho.sl.known]
  exact⟨x,ho⟩
end
end Go.Proofs.YtlaoookdegmnnaaGreatDoor
namespace Go.AM
section
variable {D:Disp} {G0:Env} {fns:Nat→Option AFn} {X:Calls'}
theorem Wp.loop0 {c:ACode} {E:Env} {A:St} {Q:Ex→Env→St→Prop} (h:Wp D G0 fns X c E A fun ex E' A'=>match ex with|.normal=>False|ex=>Q ex E' A'):Wp D G0 fns X (.loop c) E A Q:=by
 refine Wp.loop (fun _ E' A'=>E'=E∧A'=A) ?_ 0 E A ⟨rfl,rfl⟩
 rintro d E' A' ⟨rfl,rfl⟩
 refine h.mono fun ex E2 A2 h2=>?_
 cases ex with
 | normal=>exact h2.elim
 | exit i=>exact h2
 | ret=>exact h2
end
end Go.AM
namespace Go.Proofs.YtlaoookdegmnnaaGreatDoor
open Go.AM
section
variable {D:Disp} {G0:Env} {X:Calls'} {A0:St}
theorem newRT_spec {A:St} {room:Int}:Ev D G0 fnsL X 65 [.int .i64 room] A fun r B=>A.Ext B∧∃ t,r=.ptr (some (t,0,0))∧A.next≤t∧Cl B t [.int .i64 room,.slice none 0 0 0 0,.int .i64 (-1),.bool false]:=by
 refine Ev.fnK (fn:=a65) rfl ⟨by simp[a65],by decide⟩ ?_
 unfold a65
 simp[fillA,splice,aggV,AV.isBot,AV.cells,boxV,Made.value]
 exact⟨qdq A _ 1,Cl.make A _⟩
theorem rjopen_spec {A:St} {t:Nat} {room seg:Int} (ht:Cl A t [.int .i64 room,.slice none 0 0 0 0,.int .i64 (-1),.bool false]) (hs:16≤seg∧seg≤1048576) :
  Ev D G0 fnsL X 147 [.ptr (some (t,0,0)),.int .i64 seg] A fun r B=>A.Ext B∧∃ j,r=.tuple [.ptr (some (j,0,0)),.int .i64 0]∧A.next≤j∧Cl B j [.ptr (some (t,0,0)),.int .i64 seg,.int .i64 (-1),.slice none 0 0 0 0,.slice none 0 0 0 0]:=by
 refine Ev.fnK (fn:=a147) rfl ⟨by simp[a147],by decide⟩ ?_
 unfold a147
 have g1:¬seg<16:=by omega
 have g2:¬1048576<seg:=by omega
 have x1:=qdq A [.ptr (some (t,0,0)),.int .i64 seg,.int .i64 (-1),.slice none 0 0 0 0,.slice none 0 0 0 0] 1
 have c1:=Cl.make A [.ptr (some (t,0,0)),.int .i64 seg,.int .i64 (-1),.slice none 0 0 0 0,.slice none 0 0 0 0]
 simp[g1,g2,pickV,fillA,splice,aggV,AV.isBot,AV.cells,boxV,Made.value]
 generalize (A.make [.ptr (some (t,0,0)),.int .i64 seg,.int .i64 (-1),.slice none 0 0 0 0,.slice none 0 0 0 0] 1).2=A1 at *
 have l1:=(ht.ext x1).ld 1 (v:=.slice none 0 0 0 0) rfl
 refine Wp.loop0 ?_
 simp[AV.addr,l1,lenV,pickV]
 refine Wp.loop0 ?_
 simp
 refine Wp.loop0 ?_
 simp[AV.addr,l1,lenV,pickV]
 refine Wp.loop0 ?_
 simp
 exact⟨x1,c1⟩
theorem ropen_spec {A:St} {t:Nat} {room seg:Int} (ht:Cl A t [.int .i64 room,.slice none 0 0 0 0,.int .i64 (-1),.bool false]) (hs:16≤seg∧seg≤1048576) :
  Ev D G0 fnsL X 64 [.ptr (some (t,0,0)),.int .i64 seg] A fun r B=>A.Ext B∧∃ h j,r=.tuple [.ptr (some (h,0,0)),.int .i64 0]∧A.next≤h∧A.next≤j∧Cl B h [.ptr (some (j,0,0)),.slice none 0 0 0 0]∧Cl B j [.ptr (some (t,0,0)),.int .i64 seg,.int .i64 (-1),.slice none 0 0 0 0,.slice none 0 0 0 0]:=by
 refine Ev.fnK (fn:=a64) rfl ⟨by simp[a64],by decide⟩ ?_
 unfold a64
 simp[qaq,allKnown]
 refine (rjopen_spec ht hs).mono fun r B ⟨x1,j,hr,hj,cj⟩=>?_
 subst hr
 have x2:=qdq B [.ptr (some (j,0,0)),.slice none 0 0 0 0] 1
 have c2:=Cl.make B [.ptr (some (j,0,0)),.slice none 0 0 0 0]
 have cj2:=cj.ext x2
 have l3:=cj2.ld 3 (v:=.slice none 0 0 0 0) rfl
 have l4:=cj2.ld 4 (v:=.slice none 0 0 0 0) rfl
 simp[fillA,splice,aggV,AV.isBot,AV.cells,boxV,Made.value]
 generalize (B.make [.ptr (some (j,0,0)),.slice none 0 0 0 0] 1).2=C at *
 simp[AV.addr,l3,l4,lenV,appendV,okSrc,appendOf,lenA,firstA]
 refine Wp.loop0 ?_
 simp
 exact⟨x1.trans x2,x1.next,j,hj,c2,cj2⟩
end
def segN (seg:Int):Int:=(if seg.tmod 300<0 then 0 - seg.tmod 300 else seg.tmod 300)+40
theorem tmod_300 (n:Int):-300<n.tmod 300∧n.tmod 300<300:=by
 have h1:=Int.tmod_lt_of_pos n (show (0:Int)<300 by decide)
 have h2:=Int.tmod_lt_of_pos (-n) (show (0:Int)<300 by decide)
 rw[Int.neg_tmod] at h2
 omega
theorem segN_range (seg:Int):40≤segN seg∧segN seg<340:=by
 have:=tmod_300 seg
 unfold segN
 split<;>omega
def jd0 (room seg:Int):JoD:=⟨tpNew room,segN seg,-1,[],[]⟩
def hd0 (room seg:Int):HeD:=⟨jd0 room seg,[],0,0,0⟩
theorem open_new (room seg:Int):joOpen (tpNew room) (segN seg)=(0,some (jd0 room seg)):=by
 have:=segN_range seg
 unfold joOpen
 rw[if_neg (by omega)]
 rfl
theorem opened_new (room seg:Int):HeD.opened (jd0 room seg)=some (hd0 room seg):=rfl
structure BegC (A0:St) (K:Nat→Nat) (B:St) (room seg:Int) (w h j p m rh jj:Nat):Prop where
 wld:Wld K A0 B
 kw:K w=99
 cw:Cl B w [.ptr (some (p,0,0)),.ptr (some (h,0,0)),.ptr (some (rh,0,0))]
 hp:HpC 0 K B h j p m (hd0 room seg)
 krh:K rh=0
 kjj:K jj=0
 crh:Cl B rh [.ptr (some (jj,0,0)),.slice none 0 0 0 0]
 cjj:∃ t,Cl B jj [.ptr (some (t,0,0)),.int .i64 (segN seg),.int .i64 (-1),.slice none 0 0 0 0,.slice none 0 0 0 0]
section
variable {D:Disp} {G0:Env} {X:Calls'} {A0:St}
theorem wld0 (A0:St):Wld (fun _=>0) A0 A0:=⟨St.Ext.refl _,fun _ _=>rfl,fun _ _=>rfl⟩
theorem begun_spec (HX:RowsX X A0) (HC:RowsC X) (HI:RowsI X) (HK:RowsK X) {room seg:Int} (hr:0≤room∧room≤1048576) :
  Ev D G0 fnsL X 14 [.int .i64 room,.int .i64 seg] A0 fun r B=>A0.Ext B∧∃ K w h j p m rh jj,r=.ptr (some (w,0,0))∧BegC A0 K B room seg w h j p m rh jj:=by
 refine Ev.fnK (fn:=a14) rfl ⟨by simp[a14],by decide⟩ ?_
 unfold a14
 have e1:binOf .rem (.int .i64 seg) (.int .i64 300)=some (.int .i64 (seg.tmod 300)):=by simp[binOf,isShift,binInt]
 have hsr:=segN_range seg
 have htm:=tmod_300 seg
 have en:unOf .neg (.int .i64 (seg.tmod 300))=some (.int .i64 (0 - seg.tmod 300)):=by
  show some (AV.int .i64 (IntKind.wrap .i64 (0 - seg.tmod 300)))=_
  rw[IntKind.wrap_i64]
  congr 2
  omega
 simp only[Go.AM.wp_seq]
 simp[-Go.AM.wp_seq]
 simp only[Go.AM.wp_seq]
 simp[e1,-Go.AM.wp_seq]
 refine wp_cut1 (fun E A=>A=A0∧Env.at E 0=.int .i64 room∧Env.at E 1=.int .i64 (segN seg - 40)) ?_ ?_
 ·have el:=lss_int .i64 (seg.tmod 300) 0
  by_cases h:seg.tmod 300<0
  ·rw[decide_eq_true h] at el
   simp[el,en,-qjq]
   unfold segN
   rw[if_pos h]
   omega
  ·rw[decide_eq_false h] at el
   simp[el,-qjq]
   unfold segN
   rw[if_neg h]
   omega
 rintro E A ⟨rfl,f0,f1⟩
 have x1:=qdq A [.ptr none,.ptr none,.ptr none] 1
 have c1:=Cl.make A [.ptr none,.ptr none,.ptr none]
 have hw0:=wld0 A
 simp[f0,fillA,splice,aggV,AV.isBot,AV.cells,boxV,Made.value]
 have hn1:(A.make [.ptr none,.ptr none,.ptr none] 1).2.next=A.next+1:=rfl
 generalize (A.make [.ptr none,.ptr none,.ptr none] 1).2=A1 at *
 have hW1:Wld (kNew (fun _=>0) A.next 99) A A1:=wld_new hw0 x1 (by omega)
 simp[qaq,allKnown]
 refine (newT_spec (b:=0) (K:=kNew (fun _=>0) A.next 99) hr).mono fun r B ⟨x2,hn2,hr2,ht2⟩=>?_
 subst hr2
 obtain⟨K1,hK1⟩:∃ K1,K1=kTape 0 (kNew (fun _=>0) A.next 99) A1.next:=⟨_,rfl⟩
 rw[←hK1] at ht2
 have u1:KUp (kNew (fun _=>0) A.next 99) K1 A1:=by rw[hK1];exact kTape_up _ _ _
 have hW2:Wld K1 A B:=⟨(hW1.ext x2).glob,fun f hf=>by rw[u1 f (by have:=x1.next;omega)];exact hW1.low f hf,by rw[hK1];exact kTape_fresh hW1.fresh hn2⟩
 have kw1:K1 A.next=99:=by rw[u1 _ (by omega)];exact kNew_self _ _ _
 obtain⟨w,hw⟩:∃ w,w=A.next:=⟨_,rfl⟩
 rw[←hw] at kw1 c1 ⊢
 obtain⟨p,hp⟩:∃ p,p=A1.next+1:=⟨_,rfl⟩
 obtain⟨m,hm⟩:∃ m,m=A1.next:=⟨_,rfl⟩
 rw[←hp,←hm] at ht2
 rw[←hp]
 obtain⟨B1,s1,s2,s3⟩:=(c1.ext x2).stM 0 (by simp) (v:=.ptr (some (p,0,0))) rfl rfl rfl
 simp at s3
 have hW3:=hW2.mod s2 fun f hf=>by subst hf;omega
 have ht3:=ht2.mod s2 fun f hf=>by subst hf;omega
 have l0:=s3.ld 0 (v:=.ptr (some (p,0,0))) rfl
 have xB1:A.Ext B1:=(x1.trans x2).mod s2 fun f hf=>by subst hf;omega
 have ea:binOf .add (.int .i64 (segN seg - 40)) (.int .i64 40)=some (.int .i64 (segN seg)):=by
  rw[qbq,IntKind.wrap_i64]
  congr 2
  show _=_
  omega
 simp[AV.addr,s1,l0,f1,ea,qaq,allKnown,-qbq]
 refine (hopen_spec HX HC HI HK hW3 ht3 (by omega) (open_new room seg) (by simp[jd0])).mono fun r C ⟨K2,u2,hW4,m4,hO⟩=>?_
 unfold OpenR at hO
 rw[opened_new] at hO
 obtain⟨h,j,hrh,hH⟩:=hO
 subst hrh
 have kw2:K2 w=99:=by rw[u2 _ s3.lt];exact kw1
 have hno:∀ f,f<A.next→¬HW 0 K1 f:=fun f hf hW=>hW.ne0 (hW2.low f hf)
 have c4:=s3.mod m4 (fun hW=>by rcases hW with h|h|h<;>omega)
 obtain⟨C1,t1,t2,t3⟩:=c4.stM 1 (by simp) (v:=.ptr (some (h,0,0))) rfl rfl rfl
 simp at t3
 have hW5:=hW4.mod t2 fun f hf=>by subst hf;omega
 have hH5:=hH.mod t2 fun f hf=>by subst hf;omega
 have xC1:A.Ext C1:=⟨Nat.le_trans xB1.next (Nat.le_trans m4.next t2.next),fun f hf=>by
  rw[t2.get f (Nat.lt_of_lt_of_le hf (Nat.le_trans xB1.next m4.next)) (by omega),m4.get f (Nat.lt_of_lt_of_le hf xB1.next) (hno f hf),xB1.get f hf]⟩
 simp[AV.addr,t1,f0,f1,qaq,allKnown]
 refine newRT_spec.mono fun r C2 ⟨x6,t,hr6,hlt6,ct⟩=>?_
 subst hr6
 simp[f1,ea,qaq,allKnown,-qbq]
 refine (ropen_spec ct (by omega)).mono fun r C3 ⟨x7,rh,jj,hr7,hl7,hl7',crh,cjj⟩=>?_
 subst hr7
 have x67:=x6.trans x7
 obtain⟨C4,w1,w2,w3⟩:=(t3.ext x67).stM 2 (by simp) (v:=.ptr (some (rh,0,0))) rfl rfl rfl
 simp at w3
 simp[AV.addr,w1]
 have hwlt:w<C1.next:=t3.lt
 have hx6n:=x6.next
 have krh:K2 rh=0:=hW5.fresh rh (by omega)
 have kjj:K2 jj=0:=hW5.fresh jj (by omega)
 refine⟨(xC1.trans x67).mod w2 fun f hf=>by subst hf;omega,K2,h,j,p,m,rh,jj,(hW5.ext x67).mod w2 fun f hf=>by subst hf;omega,kw2,w3,(hH5.ext x67).mod w2 fun f hf=>by subst hf;omega,krh,kjj,crh.mod w2 (by omega),t,cjj.mod w2 (by omega)⟩
end
def Tells (rows:List RowD) (n:Nat) (x:List UInt8 × List (List UInt8)):Prop:=hpRows x=some rows∧x.2.length≤n
structure PI (i:Nat) (d:HeD) (rows also:List RowD):Prop where
 idx:rowsI d.idx=rows
 up:d.jd.t.down=false→∃ L,InvJ d.jd L i
 some:d.jd.t.down=false→Tells rows i (d.jd.state,d.jd.recs)
 down:d.jd.t.down=true→Lasts d.jd.t (fun x=>Tells rows i x∨Tells also i x)
 few:d.idx.length≤256+20*i∧d.all≤256+20*i∧d.recs≤i
theorem Tells.up {rows:List RowD} {n m:Nat} {x:List UInt8 × List (List UInt8)} (h:Tells rows n x) (hn:n≤m):Tells rows m x:=⟨h.1,Nat.le_trans h.2 hn⟩
theorem apply_zero {rows:List RowD} {l:List ChD} (h:(applyL rows l).1=0):applyL rows l=(0,(applyL rows l).2):=by rw[←h]
theorem hp_put {s:List UInt8} {R:List (List UInt8)} {rows:List RowD} {mark:Nat} {l:List ChD} (h:hpRows (s,R)=some rows) (hm:mark≤1073741824) (hok:∀ x∈l,i64ok x.n) (hl:l.length≤4096) (ha:(applyL rows l).1=0):hpRows (s,R++[recB mark l])=some (applyL rows l).2:=
 hpRows_put h hm hok hl (apply_zero ha)
theorem PI.put {i:Nat} {d:HeD} {rows also:List RowD} (h:PI i d rows also) (hi:i<100) (ok:HpOk d) (hd:d.jd.t.down=false) {mark:Int} {l:List ChD} (hl:l.length≤20) (hn:∀ x∈l,i64ok x.n) :
  PI (i+1) (d.put mark l).2 (if (d.put mark l).1=0 then (applyL rows l).2 else rows) (applyL rows l).2:=by
 obtain⟨L,hL⟩:=h.up hd
 have hf:=h.few
 have hsm:=h.some hd
 unfold HeD.put
 by_cases hw:wrongH d mark l=0
 rotate_left
 ·rw[if_pos hw]
  simp only[if_neg hw]
  exact⟨h.idx,fun _=>⟨L,hL.up (Nat.le_succ _)⟩,fun _=>hsm.up (Nat.le_succ _),(fun h2=>by rw[hd] at h2;cases h2),by omega,by omega,by omega⟩
 obtain⟨hm,hall,fr,hfr⟩:=wrong_no hw
 have hokc:∀ c∈l,okC c=true∧i64ok c.n:=fun c hc=>⟨List.all_eq_true.1 hall c hc,hn c hc⟩
 have hap:applyL rows l=(0,fr):=by
  unfold applyL
  rw[if_pos (show l.all okC=true from hall),←h.idx,hfr]
 rw[if_neg (by simp[hw])]
 obtain⟨mk,rfl⟩:∃ mk:Nat,mark=mk:=⟨mark.toNat,by omega⟩
 rw[Int.toNat_natCast]
 have hrl:=recB_length (mark:=mk) (by omega) hokc (by omega)
 have hT:Tells fr (i+1) (d.jd.state,d.jd.recs++[recB mk l]):=by
  refine⟨?_,by have:=hsm.2;simp at this ⊢;omega⟩
  have:=hp_put (mark:=mk) hsm.1 (by omega) hn (by omega) (by rw[hap])
  rw[hap] at this
  exact this
 rw[hap]
 simp only
 rcases write_spec hL (by omega) (r:=recB mk l) (by omega) with ⟨w1,L2,w2,w3,w4⟩|⟨w1,w2,⟨L2,w3⟩,w4,w5⟩|⟨w1,w2,w3⟩
 ·rw[if_neg (by simp[w1])]
  simp only[if_true]
  have h3:=addI_length (rec:=d.recs+1) (l:=l) (x:=d.idx)
  refine⟨?_,fun _=>⟨L2,w2⟩,fun _=>?_,fun h2=>?_,?_⟩
  ·show rowsI (addI (d.recs+1) d.idx l)=fr
   exact addI_rows ok.idx hfr
  ·show Tells fr (i+1) ((d.jd.write [recB mk l]).2.state,(d.jd.write [recB mk l]).2.recs)
   rw[w3]
   exact hT
  ·have:=w2.down
   rw[show (HeD.add _ _ _ _).jd.t.down=(d.jd.write [recB mk l]).2.t.down from rfl,this] at h2
   cases h2
  ·refine⟨?_,?_,?_⟩
   ·show (addI (d.recs+1) d.idx l).length≤_
    omega
   ·show d.all+l.length≤_
    omega
   ·show d.recs+1≤_
    omega
 ·rw[if_pos w1]
  simp only[if_neg w1]
  refine⟨h.idx,fun _=>⟨L2,w3⟩,(fun _=>by rw[w4];exact hsm.up (Nat.le_succ _)),(fun h2=>by rw[w2] at h2;cases h2),?_⟩
  show d.idx.length≤_∧d.all≤_∧d.recs≤_
  omega
 ·have w10:(d.jd.write [recB mk l]).1≠0:=by rw[w1];decide
  rw[if_pos w10]
  simp only[if_neg w10]
  refine⟨h.idx,(fun h2=>by rw[w2] at h2;cases h2),(fun h2=>by rw[w2] at h2;cases h2),fun _=>w3.mono fun x hx=>?_,?_⟩
  ·rcases hx with rfl|rfl
   ·exact .inl (hsm.up (Nat.le_succ _))
   ·exact .inr hT
  ·show d.idx.length≤_∧d.all≤_∧d.recs≤_
   omega
theorem PI.compact {i:Nat} {d:HeD} {rows also:List RowD} (h:PI i d rows also) (hi:i<100) (ok:HpOk d) (hd:d.jd.t.down=false):PI (i+1) d.compact.2 rows rows:=by
 obtain⟨L,hL⟩:=h.up hd
 have hf:=h.few
 have hsm:=h.some hd
 have hlok:=live_ok ok
 have hll:=live_len (x:=d.idx)
 have hrow:=ok.rows
 have hfo:=live_fold ok.idx hrow
 have hmo:=ok.mark
 obtain⟨mk,hmk⟩:∃ mk:Nat,d.mark=mk:=⟨d.mark.toNat,by omega⟩
 have hmn:d.mark.toNat=mk:=by omega
 have hrl:=recB_length (mark:=mk) (by omega) hlok (by omega)
 have hT:Tells rows (i+1) (recB mk (liveL d.idx),[]):=by
  refine⟨?_,Nat.zero_le _⟩
  rw[live_rows ok.idx,h.idx]
  have hup:=rowsI_up ok.idx
  rw[h.idx] at hup hrow
  refine hpRows_save (by omega) hup hrow fun r hr=>⟨?_,?_⟩
  ·rw[←h.idx] at hr
   exact rows_key ok.idx ok.keys r hr
  ·rw[←h.idx] at hr
   obtain⟨e,he,_,rfl⟩:=(rowsI_mem ok.idx).1 hr
   exact ok.nums _ e he
 unfold HeD.compact
 rw[hmn]
 rcases save_spec hL (by omega) (s:=recB mk (liveL d.idx)) (by omega) with ⟨w1,L2,w2,w3,w4⟩|⟨w1,w2,⟨L2,w3⟩,w4,w5⟩|⟨w1,w2,w3⟩
 ·rw[if_neg (by simp[w1])]
  have h3:=addI_length (rec:=0) (l:=liveL d.idx) (x:=[])
  have hr2:rowsI (addI 0 [] (liveL d.idx))=rowsI d.idx:=addI_rows idx_nil hfo
  refine⟨?_,fun _=>⟨L2,w2⟩,fun _=>?_,fun h2=>?_,?_⟩
  ·show rowsI (addI 0 [] (liveL d.idx))=rows
   rw[hr2,h.idx]
  ·show Tells rows (i+1) ((d.jd.save (recB mk (liveL d.idx))).2.state,(d.jd.save (recB mk (liveL d.idx))).2.recs)
   rw[w3]
   exact hT
  ·have:=w2.down
   rw[show (HeD.add _ _ _ _).jd.t.down=(d.jd.save (recB mk (liveL d.idx))).2.t.down from rfl,this] at h2
   cases h2
  ·refine⟨?_,?_,?_⟩
   ·show (addI 0 [] (liveL d.idx)).length≤_
    simp at h3
    omega
   ·show 0+((liveL d.idx).length:Int)≤_
    omega
   ·show (0:Int)≤_
    omega
 ·rw[if_pos w1]
  refine⟨h.idx,fun _=>⟨L2,w3⟩,(fun _=>by rw[w4];exact hsm.up (Nat.le_succ _)),(fun h2=>by rw[w2] at h2;cases h2),?_⟩
  show d.idx.length≤_∧d.all≤_∧d.recs≤_
  omega
 ·rw[if_pos (by rw[w1];decide)]
  refine⟨h.idx,(fun h2=>by rw[w2] at h2;cases h2),(fun h2=>by rw[w2] at h2;cases h2),fun _=>w3.mono fun x hx=>?_,?_⟩
  ·rcases hx with rfl|rfl
   ·exact .inl (hsm.up (Nat.le_succ _))
   ·exact .inr hT
  ·show d.idx.length≤_∧d.all≤_∧d.recs≤_
   omega
theorem PI.lasts {i:Nat} {d:HeD} {rows also:List RowD} (h:PI i d rows also):Lasts d.jd.t (fun x=>Tells rows i x∨(d.jd.t.down=true∧Tells also i x)):=by
 cases hd:d.jd.t.down with
 | false=>
  obtain⟨L,hL⟩:=h.up hd
  refine hL.lasts.mono fun x hx=>?_
  rw[hx]
  exact .inl (h.some hd)
 | true=>
  refine (h.down hd).mono fun x hx=>?_
  rcases hx with h1|h1
  ·exact .inl h1
  ·exact .inr ⟨rfl,h1⟩
theorem load_tells {d:HeD} (hi:IdxOk d.idx) {rec:Int} {w:List UInt8} {r:List RowD} (h:loadR (rowsI d.idx) w=some r):∃ d',d.load rec w=some d'∧rowsI d'.idx=r∧IdxOk d'.idx:=by
 unfold loadR at h
 split at h
 ·rename_i m l hr
  split at h
  ·rename_i r' ha
   cases h
   have hf:foldC (rowsI d.idx) l=some r:=by
    unfold applyL at ha
    split at ha
    ·split at ha
     ·rename_i q hq;cases ha;exact hq
     ·cases ha
    ·cases ha
   refine⟨d.add rec m l,?_,addI_rows hi hf,addI_ok hi⟩
   unfold HeD.load
   rw[hr]
   simp only
   rw[if_neg (by rw[ha];simp)]
  ·cases h
 ·cases h
theorem loads_tell:∀ {R:List (List UInt8)} {d:HeD} {i:Nat} {r:List RowD},IdxOk d.idx→loadRs (rowsI d.idx) R=some r→∃ d',loadsH d i R=some d'∧rowsI d'.idx=r
 | [],d,i,r,hi,h=>by
  cases h
  exact⟨d,rfl,rfl⟩
 | w::R,d,i,r,hi,h=>by
  simp only[loadRs] at h
  cases hl:loadR (rowsI d.idx) w with
  | none=>rw[hl] at h;cases h
  | some q=>
   rw[hl] at h
   simp only at h
   obtain⟨d1,h1,h2,h3⟩:=load_tells hi (rec:=((i+1:Nat):Int)) hl
   rw[←h2] at h
   obtain⟨d2,g1,g2⟩:=loads_tell (i:=i+1) h3 h
   exact⟨d2,by simp only[loadsH,h1];exact g1,g2⟩
theorem opened_tells {jd:JoD} {r:List RowD} (h:hpRows (jd.state,jd.recs)=some r):∃ d,HeD.opened jd=some d∧rowsI d.idx=r:=by
 unfold hpRows at h
 simp only at h
 unfold HeD.opened startH
 by_cases h0:jd.state=[]
 ·rw[if_pos h0] at h ⊢
  simp only at h ⊢
  obtain⟨d2,g1,g2⟩:=loads_tell (d:=⟨jd,[],0,0,0⟩) (i:=0) idx_nil h
  refine⟨{ d2 with recs:=jd.recs.length },by rw[g1],g2⟩
 ·rw[if_neg h0] at h ⊢
  cases hl:loadR [] jd.state with
  | none=>rw[hl] at h;cases h
  | some q=>
   rw[hl] at h
   simp only at h
   obtain⟨d1,h1,h2,h3⟩:=load_tells (d:=⟨jd,[],0,0,0⟩) idx_nil (rec:=0) hl
   rw[h1]
   simp only
   rw[←h2] at h
   obtain⟨d2,g1,g2⟩:=loads_tell (i:=0) h3 h
   refine⟨{ d2 with recs:=jd.recs.length },by rw[g1],g2⟩
theorem inv0 (room seg:Int) (fuse:Int):InvJ { jd0 room seg with t:=(tpNew room).fuseTo fuse } [] 0:=
 ⟨rfl,⟨List.Pairwise.nil,(fun x h=>by cases h),(fun x h=>by cases h),(fun x h=>by cases h)⟩,.inl ⟨rfl,rfl⟩,(fun x h=>by cases h),rfl,rfl⟩
theorem PI.start (room seg fuse:Int):PI 0 { hd0 room seg with jd:={ jd0 room seg with t:=(tpNew room).fuseTo fuse } } [] []:=
 ⟨rfl,fun _=>⟨[],inv0 room seg fuse⟩,fun _=>⟨rfl,Nat.le_refl _⟩,(fun h=>by cases h),by simp[hd0]⟩
structure HOp where
 kind:Int
 mark:Int
 first:Option (List ChD)
def opL (o:HOp):List ChD:=match o.first with|none=>[]|some l=>chgL l
theorem opL_len (o:HOp):(opL o).length≤20:=by
 unfold opL
 split
 ·simp
 ·exact chgL_len _
def FirstC (A:St) (Lv:AV):Option (List ChD)→Prop
 | none=>Sl A 2 Lv []
 | some l=>∃ m cv rest,Sl A 2 Lv (m::cv::rest)∧Sl A 3 cv (ChR.all l)∧l.length<2^63∧∀ c∈l,i64ok c.n
def OpC (A:St) (cs:List AV) (o:HOp):Prop:=∃ Lv ks n Kv kc,cs=[.int .i64 o.kind,.int .i64 o.mark,Lv,.str ks,.int .i64 n,Kv]∧Sl A 1 Kv kc∧FirstC A Lv o.first
theorem FirstC.ext {A B:St} {Lv:AV} {f:Option (List ChD)} (h:FirstC A Lv f) (x:A.Ext B):FirstC B Lv f:=by
 cases f with
 | none=>exact Sl.ext x h
 | some l=>
  obtain⟨m,cv,rest,h1,h2,h3⟩:=h
  exact⟨m,cv,rest,Sl.ext x h1,Sl.ext x h2,h3⟩
theorem OpC.ext {A B:St} {cs:List AV} {o:HOp} (h:OpC A cs o) (x:A.Ext B):OpC B cs o:=by
 obtain⟨Lv,ks,n,Kv,kc,h1,h2,h3⟩:=h
 exact⟨Lv,ks,n,Kv,kc,h1,Sl.ext x h2,h3.ext x⟩
theorem FirstC.sl {A:St} {Lv:AV} {f:Option (List ChD)} (h:FirstC A Lv f):∃ l,Sl A 2 Lv l:=by
 cases f with
 | none=>exact⟨_,h⟩
 | some l=>
  obtain⟨m,cv,rest,h1,_⟩:=h
  exact⟨_,h1⟩
theorem OpC.flat {A:St} {cs:List AV} {o:HOp} (h:OpC A cs o):cs.all AV.flat=true:=by
 obtain⟨Lv,ks,n,Kv,kc,rfl,h2,h3⟩:=h
 obtain⟨l,hl⟩:=h3.sl
 simp only[List.all_cons,List.all_nil,Sl.flat hl,Sl.flat h2]
 rfl
theorem OpC.beq {A:St} {cs:List AV} {o:HOp} (h:OpC A cs o):AV.beq (.agg cs) (.agg cs)=true:=by
 obtain⟨Lv,ks,n,Kv,kc,rfl,h2,h3⟩:=h
 obtain⟨l,hl⟩:=h3.sl
 simp[AV.beq,AV.beqs,hl.beq,h2.beq]
theorem opL_ok {A:St} {cs:List AV} {o:HOp} (h:OpC A cs o):∀ c∈opL o,i64ok c.n:=by
 obtain⟨Lv,ks,n,Kv,kc,h1,h2,h3⟩:=h
 unfold opL
 cases hf:o.first with
 | none=>intro c hc;cases hc
 | some l=>
  rw[hf] at h3
  obtain⟨m,cv,rest,_,_,_,h4⟩:=h3
  intro c hc
  unfold chgL at hc
  obtain⟨c',hc',rfl⟩:=List.mem_map.1 hc
  exact h4 c' (List.mem_of_mem_take hc')
section
variable {D:Disp} {G0:Env} {X:Calls'} {A0:St}
theorem changesO_spec {A:St} {cs:List AV} {o:HOp} (h:OpC A cs o):Ev D G0 fnsL X 21 [.agg cs] A fun r B=>A.Ext B∧AM.Own A.next B 3 r (ChR.all (opL o)):=by
 refine Ev.fnK (fn:=a21) rfl ⟨by simp[a21],by decide⟩ ?_
 unfold a21
 obtain⟨Lv,ks,n,Kv,kc,rfl,h2,h3⟩:=h
 have x1:=qdq A [.int .i64 o.kind,.int .i64 o.mark,Lv,.str ks,.int .i64 n,Kv] 1
 have c1:=Cl.make A [.int .i64 o.kind,.int .i64 o.mark,Lv,.str ks,.int .i64 n,Kv]
 have h3':=h3.ext x1
 simp[boxV,Made.value]
 generalize (A.make [.int .i64 o.kind,.int .i64 o.mark,Lv,.str ks,.int .i64 n,Kv] 1).2=A1 at *
 have l2:=c1.ld 2 (v:=Lv) rfl
 unfold opL
 cases hf:o.first with
 | none=>
  rw[hf] at h3'
  have hs:Sl A1 2 Lv []:=h3'
  have hl:=hs.length
  simp at hl
  have hlen:lenV Lv=some (.int .i64 0):=by rw[hs.lenV];rw[show Lv.slen=0 by omega];rfl
  simp[AV.addr,l2,hlen]
  exact⟨x1,.nil _ _ _⟩
 | some l=>
  rw[hf] at h3'
  obtain⟨m,cv,rest,hs,hc,hl,_⟩:=h3'
  have hln:=hs.length
  simp at hln
  have hlen:=hs.lenV
  have hne:binOf .eql (.int .i64 (Lv.slen:Int)) (.int .i64 0)=some (.bool false):=by
   rw[qqq]
   congr 2
   rw[decide_eq_false_iff_not]
   omega
  obtain⟨q,q1,q2⟩:=hs.at (k:=.i64) (j:=0) (by omega)
  have q1':atSliceV 2 Lv (.int .i64 0)=some (.ptr (some q)):=q1
  have q3:loadV A1 1 false (AV.addr q 1)=some cv:=by
   have:=cells_field q2 (o:=1) (v:=cv) rfl
   exact this
  obtain⟨qf,qv,qo⟩:=q
  simp[AV.addr] at q3
  simp[AV.addr,l2,hlen,hne,q1',q3,qaq,allKnown,hc.allKnown,-qqq]
  refine (changesG_spec hc hl).mono fun r B ⟨x2,ho⟩=>?_
  simp[ho.sl.known]
  exact⟨x1.trans x2,ho.mono x1.next⟩
theorem HpC.fused {b:Nat} {K:Nat→Nat} {A:St} {h j p m:Nat} {d:HeD} (H:HpC b K A h j p m d) {n:Int} (hn:n<9223372036854775808) :
  Ev D G0 fnsL X 18 [.ptr (some (p,0,0)),.int .i64 n] A fun r B=>r=.tuple []∧Mod (HW b K) A B∧HpC b K B h j p m { d with jd:={ d.jd with t:=d.jd.t.fuseTo n } }:=by
 refine (fuse_spec H.jo.tp hn).mono fun r B ⟨h1,h2,h3⟩=>?_
 have m1:Mod (JW b K) A B:=h1.mono fun f _ hf=>H.jo.tw f hf
 exact⟨h3,m1.mono fun f _ hf=>hf.hw,H.jour (KUp.refl K A) m1 (H.jo.tape h1 h2)⟩
theorem HpC.isDown {b:Nat} {K:Nat→Nat} {A:St} {h j p m:Nat} {d:HeD} (H:HpC b K A h j p m d):Ev D G0 fnsL X 19 [.ptr (some (p,0,0))] A fun r B=>A=B∧r=.bool d.jd.t.down:=down_spec H.jo.tp
end
def OpsC (A:St) (s:AV) (ops:List HOp):Prop:=∃ cs,Sl A 6 s cs∧s.slen=ops.length∧∀ i o,ops[i]?=some o→OpC A ((cs.drop (i*6)).take 6) o
structure LI (A0:St) (A:St) (w h j p m rh jj:Nat) (seg:Int) (i:Nat) (v10 v11:AV):Prop where
 ex:∃ K d rows also,Wld K A0 A∧K w=99∧Cl A w [.ptr (some (p,0,0)),.ptr (some (h,0,0)),.ptr (some (rh,0,0))]∧HpC 0 K A h j p m d∧K rh=0∧K jj=0 ∧
  Cl A rh [.ptr (some (jj,0,0)),.slice none 0 0 0 0]∧(∃ t,Cl A jj [.ptr (some (t,0,0)),.int .i64 (segN seg),.int .i64 (-1),.slice none 0 0 0 0,.slice none 0 0 0 0]) ∧
  PI i d rows also∧Sl A 2 v10 (RowR.all rows)∧RoS K v10∧Sl A 2 v11 (RowR.all also)∧RoS K v11∧also.length≤256
theorem PI.mono {i n:Nat} {d:HeD} {rows also:List RowD} (h:PI i d rows also) (hn:i≤n):PI n d rows also:=
 ⟨h.idx,fun hd=>let ⟨L,hL⟩:=h.up hd;⟨L,hL.up hn⟩,fun hd=>(h.some hd).up hn,fun hd=>(h.down hd).mono fun x hx=>hx.imp (·.up hn) (·.up hn),by have:=h.few;omega⟩
theorem apply_le {rows:List RowD} {l:List ChD} (h:rows.length≤256):(applyL rows l).2.length≤256:=by
 unfold applyL
 split
 ·split
  ·rename_i r hr;exact fold_len h hr
  ·exact h
 ·exact h
section
variable {D:Disp} {G0:Env} {X:Calls'} {A0:St}
theorem law4_spec (HX:RowsX X A0) (HC:RowsC X) (HI:RowsI X) (HK:RowsK X) (HAw:∀ A,A0.Ext A→∃ B,X 17 [] A=some (.bool true,B)) {seg fuse:Int} {Ls Ks:AV} {ops:List HOp} {keeps:List Int} (hL:OpsC A0 Ls ops) (hll:ops.length<2^63) (hKs:Sl A0 1 Ks (keeps.map (AV.int .i64))) (hkp:∀ x∈keeps,x<9223372036854775808) (hkl:keeps.length<2^63) (hfu:fuse<9223372036854775808) :
  Ev D G0 fnsL X 4 [.int .i64 seg,Ls,.int .i64 fuse,Ks] A0 fun r B=>r=.bool true:=by
 refine Ev.fnK (fn:=a4) rfl ⟨by simp[a4],by decide⟩ ?_
 unfold a4
 simp[qaq,allKnown]
 refine (begun_spec HX HC HI HK (room:=60000) (by decide)).mono fun r B ⟨x0,K,w,h,j,p,m,rh,jj,hr,hB⟩=>?_
 subst hr
 have l1:=hB.cw.ld 1 (v:=.ptr (some (h,0,0))) rfl
 have l0:=hB.cw.ld 0 (v:=.ptr (some (p,0,0))) rfl
 have hkl':=hKs.lenV1
 rw[List.length_map] at hkl'
 have hgt:binOf .gtr (.int .i64 (keeps.length:Int)) (.int .i64 20)=some (.bool (decide (20<keeps.length))):=by
  rw[qfq]
  congr 2
  rw[decide_eq_decide]
  omega
 simp[-Go.AM.wp_seq]
 simp only[Go.AM.wp_seq]
 simp[AV.addr,l1,eqV,eqOf,-Go.AM.wp_seq]
 refine wp_cut1 (fun E A=>A=B∧Env.at E 1=Ls∧Env.at E 2=.int .i64 fuse∧Env.at E 9=.ptr (some (w,0,0))∧Sl A0 1 (Env.at E 3) ((keeps.take 20).map (AV.int .i64))) ?_ ?_
 ·by_cases hk:20<keeps.length
  ·rw[decide_eq_true hk] at hgt
   obtain⟨s',q1,q2,q3⟩:=hKs.cutTo (hi:=20) (by have:=hKs.length;simp at this;omega) (j:=.i64)
   have q1':cutSliceOf 1 Ks none (some (.int .i64 20)) none=some s':=q1
   simp[hkl',hgt,q1',-qfq]
   simpa using q3
  ·rw[decide_eq_false hk] at hgt
   simp[hkl',hgt,-qfq]
   rw[List.take_of_length_le (by rw[List.length_map];omega)]
   exact hKs
 rintro E A ⟨rfl,f1,f2,f9,f3⟩
 obtain⟨kv,fk⟩:∃ kv,Env.at E 3=kv:=⟨_,rfl⟩
 rw[fk] at f3
 simp[f2,f9,AV.addr,l0,qaq,allKnown]
 refine (hB.hp.fused hfu).mono fun r A1 ⟨hr,m1,hH1⟩=>?_
 subst hr
 have hno99:∀ {K:Nat→Nat} {b:Nat},b≤50→K w=99→¬HW b K w:=fun hb hk hW=>by rcases hW with h|h|h<;>omega
 have hno0:∀ {K:Nat→Nat} {b f:Nat},K f=0→¬HW b K f:=fun hk hW=>hW.ne0 hk
 obtain⟨tt,hjj⟩:=hB.cjj
 have hLI0:LI A0 A1 w h j p m rh jj seg 0 (.slice none 0 0 0 0) (.slice none 0 0 0 0):=
  ⟨K,_,[],[],hB.wld.mod m1 (fun f hf=>hf.ne0),hB.kw,hB.cw.mod m1 (hno99 (by decide) hB.kw),hH1,hB.krh,hB.kjj,hB.crh.mod m1 (hno0 hB.krh),⟨tt,hjj.mod m1 (hno0 hB.kjj)⟩,PI.start 60000 seg fuse,.nil _ _ _,(fun f hf=>by cases hf),.nil _ _ _,(fun f hf=>by cases hf),Nat.zero_le _⟩
 obtain⟨cs,c1,c2,c3⟩:=hL
 have hlen:lenV Ls=some (.int .i64 ops.length):=by rw[c1.lenV,c2]
 simp[-Go.AM.wp_seq]
 simp only[Go.AM.wp_seq]
 simp[-Go.AM.wp_seq]
 refine wp_cut1 (fun E A'=>Env.at E 3=kv∧Env.at E 9=.ptr (some (w,0,0))∧LI A0 A' w h j p m rh jj seg 40 (Env.at E 10) (Env.at E 11)) ?_ ?_
 ·simp[f1,hlen]
  refine Wp.loopK (fun q E A'=>Env.at E 3=kv∧Env.at E 9=.ptr (some (w,0,0))∧Env.at E 37=Ls∧Env.at E 38=.int .i64 ops.length∧∃ i:Nat,Env.at E 39=.int .i64 i∧i≤ops.length∧i≤40∧i+q=ops.length∧LI A0 A' w h j p m rh jj seg i (Env.at E 10) (Env.at E 11)) ops.length ?_ ?_
  ·exact⟨by simp[fk],by simp[f9],by simp,by simp,0,by simp,Nat.zero_le _,Nat.zero_le _,by simp,by simpa using hLI0⟩
  rintro q E A' ⟨e3,e9,e37,e38,i,e39,q1,q2,q3,hI⟩
  obtain⟨v10,e10⟩:∃ v,Env.at E 10=v:=⟨_,rfl⟩
  obtain⟨v11,e11⟩:∃ v,Env.at E 11=v:=⟨_,rfl⟩
  rw[e10,e11] at hI
  simp[e38,e39,qoq,-qjq]
  refine qeq (fun hd=>?_) (fun hd=>?_)
  ·simp at hd
   obtain⟨K,d,rows,also,wld,kw,cw,hp,krh,kjj,crh,cjj,pi,s10,r10,s11,r11,a11⟩:=hI.ex
   have hg:ops[i]?=some ops[i]:=List.getElem?_eq_getElem hd
   have xg:=wld.glob
   have hopc:=c3 i ops[i] hg
   have hfl:=hopc.flat
   have hbq:=hopc.beq
   obtain⟨Lv,ks,nn,Kv,kc,hcs,hKv,hfc⟩:=hopc
   obtain⟨p',g1,g2⟩:=(Sl.ext xg c1).at (k:=.i64) (j:=i) (by omega)
   rw[hcs] at g2
   have g2':loadV A' 6 true (.ptr (some p'))=some (.agg [.int .i64 ops[i].kind,.int .i64 ops[i].mark,Lv,.str ks,.int .i64 nn,Kv]):=by simp[loadV,g2]
   rw[hcs] at hfl hbq
   obtain⟨C,w1,w2,w3⟩:=local_put A' (cs:=[.int .i64 0,.int .i64 0,.slice none 0 0 0 0,.str [],.int .i64 0,.slice none 0 0 0 0]) (n:=6) rfl (l:=[.int .i64 ops[i].kind,.int .i64 ops[i].mark,Lv,.str ks,.int .i64 nn,Kv]) rfl hfl
   have hge:binOf .geq (.int .i64 (i:Int)) (.int .i64 40)=some (.bool (decide (40≤i))):=by
    rw[bin_geq]
    congr 2
    rw[decide_eq_decide]
    omega
   have ea:=add_one (i:=i) (by omega)
   simp[-qbq] at ea
   have hpC:=hp.ext w2
   have cwC:=cw.ext w2
   have wldC:=wld.ext w2
   have l0:=cwC.ld 0 (v:=.ptr (some (p,0,0))) rfl
   have l1:=cwC.ld 1 (v:=.ptr (some (h,0,0))) rfl
   have k0:=w3.ld 0 (v:=.int .i64 ops[i].kind) rfl
   obtain⟨tj,cj⟩:=cjj
   have stay:∀ n,i≤n→LI A0 C w h j p m rh jj seg n v10 v11:=fun n hn=>
    ⟨K,d,rows,also,wldC,kw,cwC,hpC,krh,kjj,crh.ext w2,⟨tj,cj.ext w2⟩,pi.mono hn,Sl.ext w2 s10,r10,Sl.ext w2 s11,r11,a11⟩
   by_cases h40:40≤i
   ·rw[decide_eq_true h40] at hge
    simp[e3,e9,e10,e11,e37,e39,g1,g2',Made.value,w1,hge,pickV,-bin_geq]
    exact stay 40 q2
   rw[decide_eq_false h40] at hge
   simp[e3,e9,e10,e11,e37,e39,g1,g2',Made.value,w1,hge,pickV,AV.addr,l0,qaq,allKnown,-bin_geq]
   refine hpC.isDown.mono fun r C' ⟨hC',hr⟩=>?_
   subst hC' hr
   cases hdn:d.jd.t.down with
   | true=>
    simp[e3,e9,e10,e11]
    exact stay 40 q2
   | false=>
    simp[-Go.AM.wp_seq]
    simp only[Go.AM.wp_seq,Go.AM.wp_block]
    simp[AV.addr,k0,-Go.AM.wp_seq]
    refine wp_cut1 (fun E2 A2=>A2=C∧Env.at E2 3=kv∧Env.at E2 9=.ptr (some (w,0,0))∧Env.at E2 10=v10∧Env.at E2 11=v11∧Env.at E2 13=.ptr (some (A'.next,0,0))∧Env.at E2 37=Ls∧Env.at E2 38=.int .i64 ops.length∧Env.at E2 39=.int .i64 i∧Env.at E2 54=.int .i64 ops[i].kind∧Env.at E2 55=.bool (decide (0≤ops[i].kind∧ops[i].kind≤4))) ?_ ?_
    ·by_cases z0:ops[i].kind=0
     ·simp[z0,e3,e9,e10,e11,e37,e38,e39]
     by_cases z1:ops[i].kind=1
     ·simp[z1,e3,e9,e10,e11,e37,e38,e39]
     by_cases z2:ops[i].kind=2
     ·simp[z2,e3,e9,e10,e11,e37,e38,e39]
     by_cases z3:ops[i].kind=3
     ·simp[z3,e3,e9,e10,e11,e37,e38,e39]
     by_cases z4:ops[i].kind=4
     ·simp[z4,e3,e9,e10,e11,e37,e38,e39]
     ·have hz:¬(0≤ops[i].kind∧ops[i].kind≤4):=by omega
      simp[z0,z1,z2,z3,z4,e3,e9,e10,e11,e37,e38,e39]
      omega
    rintro E2 A2 ⟨rfl,f3',f9',f10,f11,f13,f37,f38,f39,f54,f55⟩
    by_cases hput:0≤ops[i].kind∧ops[i].kind≤4
    ·rw[decide_eq_true hput] at f55
     have k1:=w3.ld 1 (v:=.int .i64 ops[i].mark) rfl
     have k6:loadV A2 6 true (.ptr (some (A'.next,0,0)))=some (.agg [.int .i64 ops[i].kind,.int .i64 ops[i].mark,Lv,.str ks,.int .i64 nn,Kv]):=by
      have:=w3.lda 0 6 (by simp)
      rw[this]
      rfl
     have hop:OpC A2 [.int .i64 ops[i].kind,.int .i64 ops[i].mark,Lv,.str ks,.int .i64 nn,Kv] ops[i]:=OpC.ext ⟨Lv,ks,nn,Kv,kc,rfl,hKv,hfc⟩ wldC.glob
     have hol:=opL_len ops[i]
     have hoi:=opL_ok hop
     simp[f55,f10,f13,k6,qaq,allKnown]
     refine (changesO_spec hop).mono fun r3 C3 ⟨y3,o3⟩=>?_
     have s10C:=Sl.ext y3 (Sl.ext w2 s10)
     have hrl:=hpC.ok.rows
     have hru:=rowsI_up hpC.ok.idx
     rw[pi.idx] at hrl hru
     simp[qaq,allKnown,s10C.allKnown,o3.sl.allKnown]
     refine (apply_spec s10C hru hrl o3.sl (by omega)).mono fun r4 C4 ⟨y4,nv4,hr4,sn4,in4⟩=>?_
     subst hr4
     have y34:=y3.trans y4
     have cw4:=cwC.ext y34
     have w34:=w3.ext y34
     have l1':=cw4.ld 1 (v:=.ptr (some (h,0,0))) rfl
     have k1':=w34.ld 1 (v:=.int .i64 ops[i].mark) rfl
     have k6':loadV C4 6 true (.ptr (some (A'.next,0,0)))=some (.agg [.int .i64 ops[i].kind,.int .i64 ops[i].mark,Lv,.str ks,.int .i64 nn,Kv]):=by
      have:=w34.lda 0 6 (by simp)
      rw[this]
      rfl
     simp
     refine Wp.draws ?_
     simp[f9',f13,AV.addr,l1',k1',k6',qiq,allKnown]
     refine (changesO_spec (hop.ext y34)).mono fun r5 C5 ⟨y5,o5⟩=>?_
     simp[qiq,allKnown,o5.sl.allKnown]
     refine (ours_spec o5.sl (by omega)).mono fun r6 C6 ⟨y6,o6⟩=>?_
     have y36:=(y34.trans y5).trans y6
     have wld6:=wldC.ext y36
     have hp6:=hpC.ext y36
     have few:=pi.few
     have hpl:=pi.some hdn
     simp[qiq,allKnown,o6.sl.allKnown]
     refine (hput_spec HX HC HI HK wld6 hp6 o6.sl (fun f hf=>wldC.fresh f (by have:=(own_into o6 hf).1;have:=(y34.trans y5).next;omega)) (by omega) hoi (by have:=hpl.2;simp only at this;omega) (by omega) (by omega) (by omega)).mono fun r7 C7 ⟨K7,u7,wld7,m7,hp7,hr7⟩=>?_
     subst hr7
     have l15:=(cw4.ext y5).ld 1 (v:=.ptr (some (h,0,0))) rfl
     have l16:=((cw4.ext y5).ext y6).ld 1 (v:=.ptr (some (h,0,0))) rfl
     have k15:=(w34.ext y5).ld 1 (v:=.int .i64 ops[i].mark) rfl
     have k16:=((w34.ext y5).ext y6).ld 1 (v:=.int .i64 ops[i].mark) rfl
     have hPI:=pi.put (by omega) hpC.ok hdn (mark:=ops[i].mark) hol hoi
     have hC7:A2.next≤C7.next:=Nat.le_trans y36.next m7.next
     have e0eq:binOf .eql (.int .i64 (d.put ops[i].mark (opL ops[i])).1) (.int .i64 0)=some (.bool (decide ((d.put ops[i].mark (opL ops[i])).1=0))):=by rw[qqq]
     have sn7:Sl C7 2 nv4 (RowR.all (applyL rows (opL ops[i])).2):=Sl.mod (Sl.ext (y5.trans y6) sn4) m7 fun f hf hW=>by
      rcases in4 f hf with h1|h1
      ·exact hW.ne0 (r10 f h1)
      ·exact hW.ne0 (wldC.fresh f (Nat.le_trans y3.next h1))
     have rn7:RoS K7 nv4:=fun f hf=>by
      have hlt:=Sl.into_lt sn4 hf
      rw[u7 f (by have:=(y5.trans y6).next;omega)]
      rcases in4 f hf with h1|h1
      ·exact r10 f h1
      ·exact wldC.fresh f (Nat.le_trans y3.next h1)
     have x26:=w2.trans y36
     have s107:Sl C7 2 v10 (RowR.all rows):=Sl.mod (Sl.ext x26 s10) m7 fun f hf hW=>hW.ne0 (r10 f hf)
     have up7:KUp K K7 A':=fun f hf=>u7 f (Nat.lt_of_lt_of_le hf x26.next)
     have r107:RoS K7 v10:=r10.up s10 up7
     have mA:Mod (HW 0 K) A' C7:=(Mod.of_ext x26).trans m7
     have next:∀ v rows',PI (i+1) (d.put ops[i].mark (opL ops[i])).2 rows' (applyL rows (opL ops[i])).2→Sl C7 2 v (RowR.all rows')→RoS K7 v→LI A0 C7 w h j p m rh jj seg (i+1) v nv4:=fun v rows' g1 g2 g3=>
      ⟨K7,_,rows',_,wld7,by rw[up7 w cw.lt];exact kw,cw.mod mA (hno99 (by decide) kw),hp7,by rw[up7 rh crh.lt];exact krh,by rw[up7 jj cj.lt];exact kjj,crh.mod mA (hno0 krh),⟨tj,cj.mod mA (hno0 kjj)⟩,g1,g2,g3,sn7,rn7,apply_le hrl⟩
     simp
     refine⟨by simp[InAll,l1',k1',k6',l15,l16,k15,k16,hbq];simp[AV.beq],?_⟩
     by_cases hz:(d.put ops[i].mark (opL ops[i])).1=0
     ·rw[if_pos hz] at hPI
      simp[hz,f3',f9',f37,f38,f39,ea,-qbq]
      exact⟨q - 1,by omega,i+1,by omega,by omega,by omega,by omega,next nv4 _ hPI sn7 rn7⟩
     ·rw[if_neg hz] at hPI
      simp[hz,f3',f9',f10,f37,f38,f39,ea,-qbq]
      exact⟨q - 1,by omega,i+1,by omega,by omega,by omega,by omega,next v10 _ hPI s107 r107⟩
    ·rw[decide_eq_false hput] at f55
     have e5:binOf .eql (.int .i64 ops[i].kind) (.int .i64 5)=some (.bool (decide (ops[i].kind=5))):=by rw[qqq]
     by_cases h5:ops[i].kind=5
     ·rw[decide_eq_true h5] at e5
      simp[f55,f54,f9',e5,AV.addr,l1,qaq,allKnown,-qqq]
      refine (hcompact_spec HX HK wldC hpC).mono fun r7 C7 ⟨K7,u7,wld7,m7,hp7,hr7⟩=>?_
      subst hr7
      have hPI:=pi.compact (by omega) hpC.ok hdn
      have up7:KUp K K7 A':=fun f hf=>u7 f (Nat.lt_of_lt_of_le hf w2.next)
      have mA:Mod (HW 0 K) A' C7:=(Mod.of_ext w2).trans m7
      have s107:Sl C7 2 v10 (RowR.all rows):=Sl.mod s10 mA fun f hf hW=>hW.ne0 (r10 f hf)
      have r107:RoS K7 v10:=r10.up s10 up7
      have hrl:=hpC.ok.rows
      rw[pi.idx] at hrl
      have fin:LI A0 C7 w h j p m rh jj seg (i+1) v10 v10:=
       ⟨K7,_,rows,rows,wld7,by rw[up7 w cw.lt];exact kw,cw.mod mA (hno99 (by decide) kw),hp7,by rw[up7 rh crh.lt];exact krh,by rw[up7 jj cj.lt];exact kjj,crh.mod mA (hno0 krh),⟨tj,cj.mod mA (hno0 kjj)⟩,hPI,s107,r107,s107,r107,hrl⟩
      simp[f3',f9',f10,f37,f38,f39,ea,-qbq]
      exact⟨q - 1,by omega,i+1,by omega,by omega,by omega,by omega,fin⟩
     ·rw[decide_eq_false h5] at e5
      simp[f55,f54,f3',f9',f10,f11,f37,f38,f39,e5,ea,-qqq,-qbq]
      exact⟨q - 1,by omega,i+1,by omega,by omega,by omega,by omega,stay _ (Nat.le_succ _)⟩
  ·simp at hd
   obtain⟨K,d,rows,also,wld,kw,cw,hp,krh,kjj,crh,cjj,pi,rest⟩:=hI.ex
   simp[e3,e9,e10,e11]
   exact⟨K,d,rows,also,wld,kw,cw,hp,krh,kjj,crh,cjj,pi.mono q2,rest⟩
 rintro E A2 ⟨f3',f9',hI⟩
 obtain⟨v10,f10⟩:∃ v,Env.at E 10=v:=⟨_,rfl⟩
 obtain⟨v11,f11⟩:∃ v,Env.at E 11=v:=⟨_,rfl⟩
 rw[f10,f11] at hI
 obtain⟨K2,d,rows,also,wld,kw,cw,hp,krh,kjj,crh,⟨tj,cj⟩,pi,s10,r10,s11,r11,a11⟩:=hI.ex
 have l0':=cw.ld 0 (v:=.ptr (some (p,0,0))) rfl
 have kvA:Sl A2 1 kv ((keeps.take 20).map (AV.int .i64)):=Sl.ext wld.glob f3
 simp
 refine Wp.draws ?_
 simp[f3',f9',AV.addr,l0',qiq,allKnown,kvA.allKnown]
 refine (crash_spec (b':=3) HX wld hp.jo.tp kvA (fun x hx=>hkp x (List.mem_of_mem_take hx)) (by simp;omega)).mono fun r3 C3 ⟨x3,n3,hr3,tp3⟩=>?_
 subst hr3
 obtain⟨K3,hK3⟩:∃ K3,K3=kTape 3 K2 A2.next:=⟨_,rfl⟩
 rw[←hK3] at tp3
 have u3:KUp K2 K3 A2:=by rw[hK3];exact kTape_up _ _ _
 have wld3:Wld K3 A0 C3:=⟨(wld.ext x3).glob,fun f hf=>by rw[u3 f (Nat.lt_of_lt_of_le hf wld.glob.next)];exact wld.low f hf,by rw[hK3];exact kTape_fresh wld.fresh n3⟩
 have cw3:=cw.ext x3
 have crh3:=crh.ext x3
 have cj3:=cj.ext x3
 have w0:=cw3.ld 0 (v:=.ptr (some (p,0,0))) rfl
 have w2':=cw3.ld 2 (v:=.ptr (some (rh,0,0))) rfl
 have rh0:=crh3.ld 0 (v:=.ptr (some (jj,0,0))) rfl
 have jj1:=cj3.ld 1 (v:=.int .i64 (segN seg)) rfl
 have aw2:=cw.ld 2 (v:=.ptr (some (rh,0,0))) rfl
 have arh:=crh.ld 0 (v:=.ptr (some (jj,0,0))) rfl
 have ajj:=cj.ld 1 (v:=.int .i64 (segN seg)) rfl
 have hsr:=segN_range seg
 obtain⟨jd,hj1,hj2⟩:=pi.lasts (keeps.take 20) (segN seg) (by omega) (by omega)
 have hrecs:jd.recs.length≤200:=by
  rcases hj2 with h1|⟨_,h1⟩
  ·have:=h1.2;simp only at this;omega
  ·have:=h1.2;simp only at this;omega
 obtain⟨dO,hO1,hO2⟩:∃ dO,HeD.opened jd=some dO∧(rowsI dO.idx=rows∨(d.jd.t.down=true∧rowsI dO.idx=also)):=by
  rcases hj2 with h1|⟨hd,h1⟩
  ·obtain⟨dO,g1,g2⟩:=opened_tells h1.1
   exact⟨dO,g1,.inl g2⟩
  ·obtain⟨dO,g1,g2⟩:=opened_tells h1.1
   exact⟨dO,g1,.inr ⟨hd,g2⟩⟩
 simp[f9',AV.addr,w2',rh0,jj1,qiq,allKnown]
 refine (hopen_spec HX HC HI HK wld3 tp3 (by omega) hj1 hrecs).mono fun r4 C4 ⟨K4,u4,wld4,m4,hOp⟩=>?_
 unfold OpenR at hOp
 rw[hO1] at hOp
 obtain⟨h2,j2,hr4,hp2⟩:=hOp
 subst hr4
 simp
 refine⟨by simp[InAll,l0',w0,aw2,w2',arh,rh0,ajj,jj1,AV.beq],?_⟩
 have kw3:K3 w=99:=by rw[u3 w cw.lt];exact kw
 have mf:∀ f,HW 3 K3 f→∀ (g:f<A2.next),K2 f=4∨K2 f=5∨K2 f=6:=fun f hf g=>by rw[←u3 f g];exact hf
 have cw4:=cw3.mod m4 (hno99 (by decide) kw3)
 have h3u:=(hp.up u3).ext x3
 have hold:=h3u.mod m4 fun f hf=>by rcases hf with h|h|h<;>omega
 have s10':Sl C4 2 v10 (RowR.all rows):=Sl.mod (Sl.ext x3 s10) m4 fun f hf hW=>hW.ne0 (by rw[u3 f (Sl.into_lt s10 hf)];exact r10 f hf)
 have s11':Sl C4 2 v11 (RowR.all also):=Sl.mod (Sl.ext x3 s11) m4 fun f hf hW=>hW.ne0 (by rw[u3 f (Sl.into_lt s11 hf)];exact r11 f hf)
 have hrl:=hp.ok.rows
 rw[pi.idx] at hrl
 have hrl2:=hp2.ok.rows
 simp[eqV,eqOf,pickV,qaq,allKnown]
 refine (hrows_spec HK hp2).mono fun r5 C5 ⟨x5,o5⟩=>?_
 have s10a:=Sl.ext x5 s10'
 have s11a:=Sl.ext x5 s11'
 have cw5:=cw4.ext x5
 have v0:=cw5.ld 0 (v:=.ptr (some (p,0,0))) rfl
 simp[f10,qaq,allKnown,o5.sl.allKnown,s10a.allKnown]
 refine (same_spec o5.sl s10a (by omega) (by omega)).mono fun r6 C6 ⟨hC6,b,hr6,hb⟩=>?_
 subst hC6 hr6
 cases hbb:b with
 | true=>
  simp[pickV,qaq,allKnown]
  obtain⟨B7,hB7⟩:=HAw C5 (wld4.ext x5).glob
  refine Ev.ext rfl hB7 ?_
  simp
 | false=>
  have hnot:¬rowsI dO.idx=rows:=fun h=>by rw[hb.2 h] at hbb;cases hbb
  obtain⟨hdn,hal⟩:=hO2.resolve_left hnot
  simp[f9',AV.addr,v0,qaq,allKnown]
  refine (hold.ext x5).isDown.mono fun r7 C7 ⟨hC7,hr7⟩=>?_
  subst hC7 hr7
  rw[hdn]
  simp[pickV,qaq,allKnown]
  refine (hrows_spec HK (hp2.ext x5)).mono fun r8 C8 ⟨x8,o8⟩=>?_
  have s11b:=Sl.ext x8 s11a
  simp[f11,qaq,allKnown,o8.sl.allKnown,s11b.allKnown]
  refine (same_spec o8.sl s11b (by omega) (by omega)).mono fun r9 C9 ⟨hC9,b2,hr9,hb2⟩=>?_
  subst hC9 hr9
  rw[hb2.2 hal]
  simp[pickV,qaq,allKnown]
  obtain⟨B7,hB7⟩:=HAw C8 ((wld4.ext x5).ext x8).glob
  refine Ev.ext rfl hB7 ?_
  simp
end
end Go.Proofs.YtlaoookdegmnnaaGreatDoor
namespace Go.AM
section
variable {H:Type} {P:Program} {A:St}

end
section
variable {H:Type} {P:Program} {A:St}
theorem rdRecs {α:Type} {m:Nat} {R:Rec α m} {ok:α→Prop} {u t:TypeId} (hu:P.underlying u=some (.slice t)) (h4:P.cellsOf t=m) (T:∀ {n:Nat} {l:List AV} {d:DataW H},ARd P A n t l d→∃ o:α,ok o∧l=R.cells o) {n:Nat} {l0:List AV} {d:DataW H} (h:ARd P A n u l0 d) :
  ∃ a,∃ l:List α,l0=[a]∧(∀ o∈l,ok o)∧Sl A m a (R.all l)∧l.length≤maxLen:=by
 have hv:∃ a,l0=[a]:=by
  cases n with
  | zero=>exact h.elim
  | succ n=>
   unfold ARd at h
   rw[hu] at h
   rcases h with ⟨rfl,_⟩|⟨k,rfl,_⟩|⟨f,len,cap,cs,ds,sp,rfl,_⟩<;>exact⟨_,rfl⟩
 obtain⟨a,rfl⟩:=hv
 obtain⟨l,h1,h2,h3⟩:=argRecs (R:=R) (ok:=ok) hu h4 T (a:=a) (d:=d) ⟨n,[a],h,by rw[hu]⟩
 exact⟨a,l,rfl,h1,h2,h3⟩
theorem rdBool {n:Nat} {t:TypeId} (ht:P.underlying t=some .bool) {l:List AV} {d:DataW H} (h:ARd P A n t l d):∃ b,l=[.bool b]:=by
 cases n with
 | zero=>exact h.elim
 | succ n=>
  unfold ARd at h
  rw[ht] at h
  obtain⟨b,rfl,_⟩:=h
  exact⟨b,rfl⟩
theorem rd2 {n:Nat} {t t1 t2:TypeId} {fs} (hu:P.underlying t=some (.struct fs)) (hf:fs.toList.map (·.type)=[t1,t2]) {l:List AV} {d:DataW H} (h:ARd P A n t l d):∃ (k:Nat) (l1 l2:List AV) (d1 d2:DataW H),l=l1++l2∧ARd P A k t1 l1 d1∧ARd P A k t2 l2 d2:=by
 cases n with
 | zero=>exact h.elim
 | succ n=>
  unfold ARd at h
  rw[hu] at h
  obtain⟨ds,_,h⟩:=h
  rw[hf] at h
  obtain⟨l1,r1,d1,ds1,rfl,rfl,h1,h⟩:=h
  obtain⟨l2,r2,d2,ds2,rfl,rfl,h2,h⟩:=h
  obtain⟨rfl,_⟩:=h
  exact⟨n,l1,l2,d1,d2,by simp,h1,h2⟩
theorem rd3 {n:Nat} {t t1 t2 t3:TypeId} {fs} (hu:P.underlying t=some (.struct fs)) (hf:fs.toList.map (·.type)=[t1,t2,t3]) {l:List AV} {d:DataW H} (h:ARd P A n t l d):∃ (k:Nat) (l1 l2 l3:List AV) (d1 d2 d3:DataW H),l=l1++(l2++l3)∧ARd P A k t1 l1 d1∧ARd P A k t2 l2 d2∧ARd P A k t3 l3 d3:=by
 cases n with
 | zero=>exact h.elim
 | succ n=>
  unfold ARd at h
  rw[hu] at h
  obtain⟨ds,_,h⟩:=h
  rw[hf] at h
  obtain⟨l1,r1,d1,ds1,rfl,rfl,h1,h⟩:=h
  obtain⟨l2,r2,d2,ds2,rfl,rfl,h2,h⟩:=h
  obtain⟨l3,r3,d3,ds3,rfl,rfl,h3,h⟩:=h
  obtain⟨rfl,_⟩:=h
  exact⟨n,l1,l2,l3,d1,d2,d3,by simp,h1,h2,h3⟩
theorem rd6 {n:Nat} {t t1 t2 t3 t4 t5 t6:TypeId} {fs} (hu:P.underlying t=some (.struct fs)) (hf:fs.toList.map (·.type)=[t1,t2,t3,t4,t5,t6]) {l:List AV} {d:DataW H} (h:ARd P A n t l d) :
  ∃ (k:Nat) (l1 l2 l3 l4 l5 l6:List AV) (d1 d2 d3 d4 d5 d6:DataW H),l=l1++(l2++(l3++(l4++(l5++l6))))∧ARd P A k t1 l1 d1∧ARd P A k t2 l2 d2∧ARd P A k t3 l3 d3∧ARd P A k t4 l4 d4∧ARd P A k t5 l5 d5∧ARd P A k t6 l6 d6:=by
 cases n with
 | zero=>exact h.elim
 | succ n=>
  unfold ARd at h
  rw[hu] at h
  obtain⟨ds,_,h⟩:=h
  rw[hf] at h
  obtain⟨l1,r1,d1,ds1,rfl,rfl,h1,h⟩:=h
  obtain⟨l2,r2,d2,ds2,rfl,rfl,h2,h⟩:=h
  obtain⟨l3,r3,d3,ds3,rfl,rfl,h3,h⟩:=h
  obtain⟨l4,r4,d4,ds4,rfl,rfl,h4,h⟩:=h
  obtain⟨l5,r5,d5,ds5,rfl,rfl,h5,h⟩:=h
  obtain⟨l6,r6,d6,ds6,rfl,rfl,h6,h⟩:=h
  obtain⟨rfl,_⟩:=h
  exact⟨n,l1,l2,l3,l4,l5,l6,d1,d2,d3,d4,d5,d6,by simp,h1,h2,h3,h4,h5,h6⟩
abbrev RawC (n:Nat):Type:={ cs:List AV // cs.length=n∧cs.all AV.flat=true }
def rawR (n:Nat) (h:n≠0):Rec (RawC n) n:=⟨fun x=>x.1,fun x=>x.2.1,fun x=>x.2.2,h⟩
def intR:Rec Int 1:=⟨fun i=>[.int .i64 i],fun _=>rfl,fun _=>rfl,by decide⟩
theorem intR_all:∀ l:List Int,intR.all l=l.map (AV.int .i64)
 | []=>rfl
 | x::l=>by
  show [AV.int .i64 x]++intR.all l=_
  rw[intR_all l]
  rfl
end
end Go.AM
namespace Go.Proofs.YtlaoookdegmnnaaGreatDoor
open Go Go.AM
structure HopT (P:Program) (tOps tOp tPuts tPut tChs tCh tInts tI tS:TypeId):Prop where
 ops:P.underlying tOps=some (.slice tOp)
 opsN:P.cellsOf tOp=6
 op:∃ fs,P.underlying tOp=some (.struct fs)∧fs.toList.map (·.type)=[tI,tI,tPuts,tS,tI,tInts]
 puts:P.underlying tPuts=some (.slice tPut)
 putsN:P.cellsOf tPut=2
 put:∃ fs,P.underlying tPut=some (.struct fs)∧fs.toList.map (·.type)=[tI,tChs]
 chs:P.underlying tChs=some (.slice tCh)
 chsN:P.cellsOf tCh=3
 ch:∃ fs t2 tB,P.underlying tCh=some (.struct fs)∧fs.toList.map (·.type)=[tS,t2,tB]∧P.underlying t2=some (.int .i64)∧P.underlying tB=some .bool
 ints:P.underlying tInts=some (.slice tI)
 intsN:P.cellsOf tI=1
 int:P.underlying tI=some (.int .i64)
 str:P.underlying tS=some .string
section
variable {H:Type} {P:Program} {A:St} {tOps tOp tPuts tPut tChs tCh tInts tI tS:TypeId}
theorem rdCh (T:HopT P tOps tOp tPuts tPut tChs tCh tInts tI tS) {n:Nat} {l:List AV} {d:DataW H} (h:ARd P A n tCh l d):∃ c:ChD,i64ok c.n∧l=ChR.cells c:=by
 obtain⟨fs,t2,tB,u,hf,u2,uB⟩:=T.ch
 obtain⟨k,l1,l2,l3,d1,d2,d3,rfl,h1,h2,h3⟩:=rd3 u hf h
 obtain⟨s,rfl,_⟩:=rdStr T.str h1
 obtain⟨i,rfl,hi⟩:=rdInt u2 h2
 obtain⟨b,rfl⟩:=rdBool uB h3
 exact⟨⟨s,i,b⟩,hi,rfl⟩
def PutOk (A:St) (cs:List AV):Prop:=∃ m cv l,cs=[m,cv]∧Sl A 3 cv (ChR.all l)∧l.length≤maxLen∧∀ c∈l,i64ok c.n
theorem rdPut (T:HopT P tOps tOp tPuts tPut tChs tCh tInts tI tS) {n:Nat} {l:List AV} {d:DataW H} (h:ARd P A n tPut l d):∃ c:RawC 2,PutOk A c.1∧l=(rawR 2 (by decide)).cells c:=by
 obtain⟨fs,u,hf⟩:=T.put
 obtain⟨k,l1,l2,d1,d2,rfl,h1,h2⟩:=rd2 u hf h
 obtain⟨i,rfl,hi⟩:=rdInt T.int h1
 obtain⟨a,l,rfl,hl,hs,hm⟩:=rdRecs (R:=ChR) (ok:=fun c=>i64ok c.n) T.chs T.chsN (rdCh T) h2
 exact⟨⟨[.int .i64 i,a],rfl,by simp only[List.all_cons,List.all_nil,Sl.flat hs];rfl⟩,⟨_,_,l,rfl,hs,hm,hl⟩,rfl⟩
theorem rdHop (T:HopT P tOps tOp tPuts tPut tChs tCh tInts tI tS) {n:Nat} {l:List AV} {d:DataW H} (h:ARd P A n tOp l d):∃ c:RawC 6,(∃ o,OpC A c.1 o)∧l=(rawR 6 (by decide)).cells c:=by
 obtain⟨fs,u,hf⟩:=T.op
 obtain⟨k,l1,l2,l3,l4,l5,l6,d1,d2,d3,d4,d5,d6,rfl,h1,h2,h3,h4,h5,h6⟩:=rd6 u hf h
 obtain⟨i1,rfl,_⟩:=rdInt T.int h1
 obtain⟨i2,rfl,_⟩:=rdInt T.int h2
 obtain⟨a,ps,rfl,hp,hs,hm⟩:=rdRecs (R:=rawR 2 (by decide)) (ok:=fun c=>PutOk A c.1) T.puts T.putsN (rdPut T) h3
 obtain⟨s,rfl,_⟩:=rdStr T.str h4
 obtain⟨i5,rfl,_⟩:=rdInt T.int h5
 obtain⟨kv,ks,rfl,hk,hks,hkm⟩:=rdRecs (R:=intR) (ok:=fun i=>IntKind.i64.min≤i∧i≤IntKind.i64.max) T.ints T.intsN (fun h=>by
  obtain⟨i,h1,h2⟩:=rdInt T.int h
  exact⟨i,h2,h1⟩) h6
 have hfl:([AV.int .i64 i1]++([AV.int .i64 i2]++([a]++([AV.str s]++([AV.int .i64 i5]++[kv]))))).all AV.flat=true:=by
  simp only[List.all_append,List.all_cons,List.all_nil,Sl.flat hs,Sl.flat hks]
  rfl
 refine⟨⟨_,rfl,hfl⟩,?_,rfl⟩
 cases ps with
 | nil=>exact⟨⟨i1,i2,none⟩,_,_,_,_,_,rfl,hks,hs⟩
 | cons p ps=>
  obtain⟨m,cv,lc,h1,h2,h3,h4⟩:=hp p (by simp)
  refine⟨⟨i1,i2,some lc⟩,_,_,_,_,_,rfl,hks,m,cv,(rawR 2 (by decide)).all ps,?_,h2,?_,h4⟩
  ·have:(rawR 2 (by decide)).all (p::ps)=m::cv::(rawR 2 (by decide)).all ps:=by
    show p.1++_=_
    rw[h1]
    rfl
   rw[←this]
   exact hs
  ·unfold maxLen at h3
   omega
theorem ops_list {A:St}:∀ (l:List (RawC 6)),(∀ x∈l,∃ o,OpC A x.1 o)→∃ ops:List HOp,ops.length=l.length∧∀ (i:Nat) (o:HOp),ops[i]?=some o→∃ x:RawC 6,l[i]?=some x∧OpC A x.1 o
 | [],_=>⟨[],rfl,fun i o h=>by simp at h⟩
 | x::l,h=>by
  obtain⟨o,ho⟩:=h x (by simp)
  obtain⟨ops,h1,h2⟩:=ops_list l fun y hy=>h y (List.mem_cons_of_mem _ hy)
  refine⟨o::ops,by simp[h1],fun i o' hi=>?_⟩
  cases i with
  | zero=>simp at hi;subst hi;exact⟨x,rfl,ho⟩
  | succ i=>
   obtain⟨y,hy,hy2⟩:=h2 i o' (by simpa using hi)
   exact⟨y,by simpa using hy,hy2⟩
theorem argHops (T:HopT P tOps tOp tPuts tPut tChs tCh tInts tI tS) {a:AV} {d:DataW H} (h:ARdV P A tOps a d):∃ ops:List HOp,OpsC A a ops∧ops.length≤maxLen:=by
 obtain⟨l,h1,h2,h3⟩:=argRecs (R:=rawR 6 (by decide)) (ok:=fun c=>∃ o,OpC A c.1 o) T.ops T.opsN (rdHop T) h
 obtain⟨ops,g1,g2⟩:=ops_list l h1
 refine⟨ops,⟨_,h2,?_,fun i o ho=>?_⟩,by omega⟩
 ·rw[Sl.rec_len h2];omega
 ·obtain⟨x,hx,hx2⟩:=g2 i o ho
  have h5:=(rawR 6 (by decide)).at hx
  rw[h5]
  exact hx2
theorem argInts (T:HopT P tOps tOp tPuts tPut tChs tCh tInts tI tS) {a:AV} {d:DataW H} (h:ARdV P A tInts a d):∃ ks:List Int,Sl A 1 a (ks.map (AV.int .i64))∧(∀ k∈ks,k<9223372036854775808)∧ks.length≤maxLen:=by
 obtain⟨l,h1,h2,h3⟩:=argRecs (R:=intR) (ok:=fun i=>IntKind.i64.min≤i∧i≤IntKind.i64.max) T.ints T.intsN (fun h=>by
  obtain⟨i,h1,h2⟩:=rdInt T.int h
  exact⟨i,h2,h1⟩) h
 refine⟨l,by rw[←intR_all];exact h2,fun k hk=>?_,h3⟩
 have:=(h1 k hk).2
 have e:IntKind.i64.max=9223372036854775807:=by decide
 omega
end
end Go.Proofs.YtlaoookdegmnnaaGreatDoor
