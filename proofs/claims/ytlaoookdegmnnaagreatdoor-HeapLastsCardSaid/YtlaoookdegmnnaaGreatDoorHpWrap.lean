/- What the program's frame comes to. -/
import Derived.Test.YtlaoookdegmnnaaGreatDoorHpTape
set_option maxRecDepth 100000
set_option linter.unusedSimpArgs false
set_option linter.unusedVariables false
namespace Go.Proofs.YtlaoookdegmnnaaGreatDoor
open Go.AM
section
variable {D:Disp} {G0:Env} {X:Calls'} {A0:St}
theorem TpC_nodup {b:Nat} {K:Nat→Nat} {A:St} {p m:Nat} {t:TpD} (h:TpC b K A p m t):(keysA t.segs).Nodup:=by
 obtain⟨l,c,h1,h2⟩:=h.ex
 rw[←h2.keys,keysA_vals]
 exact h1.keys
def lenK (l:List (Int × SegD)) (k:Int):Nat:=((assoc k l).getD ⟨[],0⟩).b.length
theorem sum_keys:∀ {l:List (Int × SegD)},(keysA l).Nodup→((keysA l).map (lenK l)).sum=usedL l
 | [],_=>rfl
 | (x,d)::l,hn=>by
  rw[qyq,List.nodup_cons] at hn
  rw[qyq,List.map_cons,List.sum_cons]
  have e:(keysA l).map (lenK ((x,d)::l))=(keysA l).map (lenK l):=by
   apply List.map_congr_left
   intro k hk
   unfold lenK
   simp only[assoc]
   rw[if_neg (fun e=>hn.1 (by simp only at e ⊢;rw[e];exact hk))]
  rw[e,sum_keys hn.2]
  unfold lenK
  simp[assoc,usedL]
theorem sum_sorted {l:List (Int × SegD)} (h:(keysA l).Nodup):((sortB leI (keysA l)).map (lenK l)).sum=usedL l:=by
 rw[←sum_keys h]
 exact ((qrq leI (keysA l)).map _).sum_nat
theorem sum_take_le (l:List Nat) (i:Nat):(l.take i).sum≤l.sum:=by
 conv=>rhs;rw[←List.take_append_drop i l,List.sum_append]
 omega
theorem sum_take_succ {l:List Nat} {i x:Nat} (h:l[i]?=some x):(l.take (i+1)).sum=(l.take i).sum+x:=by
 rw[List.take_add_one,h];simp
theorem used_spec (HX:RowsX X A0) {b:Nat} {K:Nat→Nat} {A:St} (hA:Wld K A0 A) {p m:Nat} {t:TpD} (ht:TpC b K A p m t) :
  Ev D G0 fnsL X 145 [.ptr (some (p,0,0))] A fun r B=>A.Ext B∧r=.int .i64 (usedL t.segs:Nat):=by
 refine Ev.fnK (fn:=a145) rfl ⟨by simp[a145],by decide⟩ ?_
 unfold a145
 simp[qaq,allKnown]
 refine (segs_spec HX hA.glob ht).mono fun r B ⟨x1,hs,_⟩=>?_
 have ht:=ht.ext x1
 have hlen:=hs.lenV1
 have hsum:=sum_sorted (TpC_nodup ht)
 have hu:=ht.ok.used
 have hkl:t.keys.length≤64:=by unfold TpD.keys;rw[(qrq leI _).length_eq];simpa[keysA] using ht.ok.few
 have l1:=ht.cl.ld 1 (v:=.map (some m)) rfl
 simp[hs.notBot,hs.known] at hlen
 simp[hlen]
 refine Wp.loopK (fun d E A'=>B=A'∧Env.at E 0=.ptr (some (p,0,0))∧Env.at E 7=r∧Env.at E 8=.int .i64 t.keys.length∧∃ i:Nat,Env.at E 9=.int .i64 i∧i+d=t.keys.length∧Env.at E 3=.int .i64 (((t.keys.map (lenK t.segs)).take i).sum:Nat)) t.keys.length ?_ ?_
 ·exact⟨rfl,by simp,by simp,by simp,0,by simp,by simp,by simp⟩
 rintro d E _ ⟨rfl,e0,e7,e8,i,e9,hi,e3⟩
 simp[e8,e9,qoq,-qjq]
 refine qeq (fun hc=>?_) (fun hc=>?_)
 ·simp at hc
  have hk:t.keys[i]?=some t.keys[i]:=List.getElem?_eq_getElem hc
  obtain⟨q,g1,g2⟩:=hs.at_one (j:=i) (v:=.int .i64 t.keys[i]) (by rw[List.getElem?_map,hk];rfl) .i64
  obtain⟨v,q1,q2,q3,q4⟩:=ht.look t.keys[i]
  have hlv:=q3.lenV
  have hx:(t.keys.map (lenK t.segs))[i]?=some (lenK t.segs t.keys[i]):=by rw[List.getElem?_map,hk];rfl
  have hss:=sum_take_succ hx
  have hle:=sum_take_le (t.keys.map (lenK t.segs)) (i+1)
  have hll:lenK t.segs t.keys[i]=(t.seg t.keys[i]).b.length:=rfl
  rw[hll] at hss
  have hkd:t.keys=sortB leI (keysA t.segs):=rfl
  rw[hkd,hsum] at hle
  rw[←hkd] at hle
  generalize ((t.keys.map (lenK t.segs)).take i).sum=S at *
  obtain⟨z,hz,ez⟩:=add_nat (a:=S) (b:=(t.seg t.keys[i]).b.length) (by omega) (by omega)
  have ea:=add_one (i:=i) (by omega)
  generalize t.keys[i]=k at *
  simp[-qbq] at ez ea
  simp[e0,e3,e7,e8,e9,g1,g2,AV.addr,l1,q2,fieldV,partOf,hlv,ez,ea,-qbq]
  exact⟨d - 1,by omega,i+1,by omega,by omega,by rw[hss,hz]⟩
 ·simp at hc
  have hil:i=t.keys.length:=by omega
  have hkd:t.keys=sortB leI (keysA t.segs):=rfl
  rw[hil,List.take_of_length_le (by simp),hkd,hsum] at e3
  simp[e3]
  exact x1
theorem free_spec (HX:RowsX X A0) {b:Nat} {K:Nat→Nat} {A:St} (hA:Wld K A0 A) {p m:Nat} {t:TpD} (ht:TpC b K A p m t) :
  Ev D G0 fnsL X 349 [.ptr (some (p,0,0))] A fun r B=>A.Ext B∧r=.int .i64 t.free:=by
 refine Ev.fnK (fn:=a349) rfl ⟨by simp[a349],by decide⟩ ?_
 unfold a349
 have l0:=ht.cl.ld 0 (v:=.int .i64 t.room) rfl
 simp[eqV,eqOf]
 refine Wp.draws ?_
 simp[AV.addr,l0,qiq,allKnown]
 refine (used_spec HX hA ht).mono fun r B ⟨x1,hr⟩=>?_
 subst hr
 have l1:=(ht.ext x1).cl.ld 0 (v:=.int .i64 t.room) rfl
 have hu:=ht.ok.used
 have hr:=ht.ok.room
 have es:binOf .sub (.int .i64 t.room) (.int .i64 (usedL t.segs:Nat))=some (.int .i64 (t.room - usedL t.segs)):=by
  rw[qsq,IntKind.wrap_i64]
  congr 2
  omega
 have em:=fun (E:Env) (x y:Operand) (h1:ev E x=.int .i64 (t.room - usedL t.segs)) (h2:ev E y=.int .i64 0)=>pure_mm2 (b:=true) h1 h2
 simp[es,InAll,l0,l1,AV.beq,-qsq]
 rw[em _ _ _ (by simp) (by simp)]
 simp[l0,l1]
 exact⟨x1,rfl⟩
end
section
variable {D:Disp} {G0:Env} {X:Calls'} {A0:St}
theorem fits_spec (HX:RowsX X A0) {b:Nat} {K:Nat→Nat} {A:St} (hA:Wld K A0 A) {p m:Nat} {t:TpD} (ht:TpC b K A p m t) {k:Int} {s x:AV} {l:List UInt8} (hs:Sl A 1 s [x]) (hx:Bs A x l) (hl:l.length<2^40) :
  Ev D G0 fnsL X 263 [.ptr (some (p,0,0)),.int .i64 k,s] A fun r B=>A.Ext B∧EV B r (t.fits k [l]):=by
 refine Ev.fnK (fn:=a263) rfl ⟨by simp[a263],by decide⟩ ?_
 unfold a263
 have hl1:=hs.lenV1
 simp[qaq,allKnown]
 refine (free_spec HX hA ht).mono fun r B ⟨x1,hr⟩=>?_
 subst hr
 have ht:=ht.ext x1
 have hs:=Sl.ext x1 hs
 have hx:Bs B x l:=Sl.ext x1 hx
 have hfr:0≤t.free∧t.free≤1048576:=by
  have:=ht.ok.room
  unfold TpD.free
  omega
 have hlx:=hx.lenV
 have eg:binOf .gtr (.int .i64 l.length) (.int .i64 t.free)=some (.bool (decide (t.free<l.length))):=by rw[qfq]
 unfold TpD.fits
 simp only[roomP,Bool.and_true]
 have l0:=ht.cl.ld 0 (v:=.int .i64 t.room) rfl
 have l1:=ht.cl.ld 1 (v:=.map (some m)) rfl
 simp at hl1
 simp[hl1]
 refine Wp.loopK (fun d E A'=>B=A'∧Env.at E 0=.ptr (some (p,0,0))∧Env.at E 1=.int .i64 k∧Env.at E 14=s∧Env.at E 15=.int .i64 1∧((d=1∧Env.at E 16=.int .i64 0∧Env.at E 7=.int .i64 t.free)∨(d=0∧Env.at E 16=.int .i64 1∧(l.length:Int)≤t.free))) 1 ?_ ?_
 ·exact⟨rfl,by simp,by simp,by simp,by simp,.inl ⟨rfl,by simp,by simp⟩⟩
 rintro d E _ ⟨rfl,e0,e1,e14,e15,h⟩
 rcases h with ⟨rfl,e16,e7⟩|⟨rfl,e16,hle⟩
 ·obtain⟨q,g1,g2⟩:=hs.at_one (j:=0) (v:=x) rfl .i64
  simp at g1
  have ea:=add_one (i:=0) (by omega)
  simp at ea
  simp[e14,e15,e16,e7,g1,g2,hlx,eg,-qfq]
  refine qeq (fun hc=>?_) (fun hc=>?_)
  ·simp at hc
   simp only[Go.AM.wp_seq]
   refine Wp.draws ?_
   simp[e0,AV.addr,l0,hlx,qiq,allKnown]
   refine (new_spec (e:=5) (by decide)).mono fun r C ⟨x2,h2⟩=>?_
   obtain⟨ty,u,rfl⟩:=h2.isIface
   simp[qiq,allKnown,InAll]
   refine (bound_spec h2).mono fun r C2 ⟨x3,h3⟩=>?_
   obtain⟨ty,u,rfl⟩:=h3.isIface
   have l0':=(ht.ext x2).cl.ld 0 (v:=.int .i64 t.room) rfl
   simp[InAll,l0,l0',AV.beq]
   rw[if_pos (by omega)]
   exact⟨(x1.trans x2).trans x3,h3.ev (by decide)⟩
  ·simp at hc
   have es:binOf .sub (.int .i64 t.free) (.int .i64 l.length)=some (.int .i64 (t.free - l.length)):=by
    rw[qsq,IntKind.wrap_i64]
    congr 2
    omega
   simp[e14,e15,e16,e7,hlx,es,-qsq]
   exact⟨e0,e1,by decide,hc⟩
 ·have hok:=decide_eq_true hle
  obtain⟨v,q1,q2,q3,q4⟩:=ht.look k
  obtain⟨C,w1,x2,w2⟩:=local_put B (cs:=[.slice none 0 0 0 0,.int .i64 0]) (n:=2) rfl (l:=[v,.int .i64 (t.seg k).syn]) rfl (flat_seg q3 _ _)
  have hlm:=fun (E:Env) (mp:Operand) (h1:ev E mp=.map (some m))=>(ht.ext x2).lenMap h1
  have l1':=(ht.ext x2).cl.ld 1 (v:=.map (some m)) rfl
  have egq:binOf .geq (.int .i64 t.segs.length) (.int .i64 64)=some (.bool (decide (64≤t.segs.length))):=by rw[bin_geq];simp;omega
  have hng:¬t.free<(l.length:Int):=by omega
  simp only[if_neg hng]
  have x12:=x1.trans x2
  cases ha:assoc k t.segs with
  | some d=>
   simp[e0,e1,e14,e15,e16,AV.addr,l1,q1,ha,Made.value,w1]
   exact⟨x12,EV.nil C⟩
  | none=>
   by_cases h64:64≤t.segs.length
   ·simp[e0,e1,e14,e15,e16,AV.addr,l1,l1',q1,ha,Made.value,w1,hlm,egq,h64,qaq,allKnown,-bin_geq]
    refine (new_spec (e:=5) (by decide)).mono fun r C2 ⟨x3,h2⟩=>?_
    obtain⟨ty,u,rfl⟩:=h2.isIface
    simp[qaq,allKnown]
    refine (bound_spec h2).mono fun r C3 ⟨x4,h3⟩=>?_
    obtain⟨ty,u,rfl⟩:=h3.isIface
    simp
    exact⟨(x12.trans x3).trans x4,h3.ev (by decide)⟩
   ·simp[e0,e1,e14,e15,e16,AV.addr,l1,l1',q1,ha,Made.value,w1,hlm,egq,h64,-bin_geq]
    exact⟨x12,EV.nil C⟩
end
section
variable {D:Disp} {G0:Env} {X:Calls'} {A0:St}
theorem fits_zero {t:TpD} {k:Int} {l:List UInt8} (h:t.fits k [l]=0):(l.length:Int)≤t.free∧(assoc k t.segs≠none∨t.segs.length<64):=by
 unfold TpD.fits at h
 simp only[roomP,Bool.and_true] at h
 split at h
 ·cases h
 split at h
 ·cases h
 rename_i h1 h2
 refine⟨by simpa using h1,?_⟩
 by_cases ha:assoc k t.segs=none
 ·right
  have:¬64≤t.segs.length:=fun h=>h2 ⟨ha,h⟩
  omega
 ·exact .inl ha
theorem append_there {t:TpD} {k:Int} {l:List (List UInt8)} (h:t.there k true≠0):t.append k l=(t.there k true,t):=by unfold TpD.append;rw[if_pos h]
theorem append_fits {t:TpD} {k:Int} {l:List (List UInt8)} (h:t.there k true=0) (h2:t.fits k l≠0):t.append k l=(t.fits k l,t):=by unfold TpD.append;rw[if_neg (by simp[h]),if_pos h2]
theorem append_ok {t:TpD} {k:Int} {l:List UInt8} (h:t.there k true=0) (h2:t.fits k [l]=0):t.append k [l]=t.change k ⟨(t.seg k).b++l,(t.seg k).syn⟩:=by
 unfold TpD.append;rw[if_neg (by simp[h]),if_neg (by simp[h2])];simp
theorem append_spec (HX:RowsX X A0) {b:Nat} {K:Nat→Nat} {A:St} (hA:Wld K A0 A) {p m:Nat} {t:TpD} (ht:TpC b K A p m t) {k:Int} {s x:AV} {l:List UInt8} (hs:Sl A 1 s [x]) (hx:Bs A x l) (hl:l.length<2^40) :
  Ev D G0 fnsL X 159 [.ptr (some (p,0,0)),.int .i64 k,s] A fun r B=>Mod (fun f=>f=p∨f=m) A B∧TpC b K B p m (t.append k [l]).2∧r=.int .i64 (t.append k [l]).1:=by
 refine Ev.fnK (fn:=a159) rfl ⟨by simp[a159],by decide⟩ ?_
 unfold a159
 simp[qaq,allKnown]
 refine (there_spec ht).mono fun r B ⟨x1,h1⟩=>?_
 rcases h1 with ⟨h0,rfl⟩|⟨h0,n,ty,u,hk,rfl,h2⟩
 rotate_left
 ·rw[append_there h0]
  simp[eqV,eqOf,qaq,allKnown]
  refine (qvq HX (hA.glob.trans x1) (h2.ev hk)).mono fun r C ⟨e1,e2⟩=>?_
  subst e1 e2
  simp
  exact⟨Mod.of_ext x1,ht.ext x1⟩
 have hA1:=hA.ext x1
 have ht1:=ht.ext x1
 simp[eqV,eqOf,qaq,allKnown,hs.allKnown]
 refine (fits_spec HX hA1 ht1 (Sl.ext x1 hs) (Sl.ext x1 hx) hl).mono fun r C ⟨x2,h1⟩=>?_
 have hA2:=hA1.ext x2
 have ht2:=ht1.ext x2
 have x12:=x1.trans x2
 rcases h1 with ⟨hf0,rfl⟩|⟨hf0,n,ty,u,hk,rfl,h2⟩
 rotate_left
 ·rw[append_fits h0 hf0]
  simp[eqV,eqOf,qaq,allKnown]
  refine (qvq HX hA2.glob (h2.ev hk)).mono fun r C2 ⟨e1,e2⟩=>?_
  subst e1 e2
  simp
  exact⟨Mod.of_ext x12,ht2⟩
 rw[append_ok h0 hf0]
 obtain⟨z1,z2,_⟩:=there_zero h0
 obtain⟨y1,y2⟩:=fits_zero hf0
 obtain⟨v,q1,q2,q3,q4⟩:=ht2.look k
 obtain⟨C1,w1,x3,w2⟩:=local_put C (cs:=[.slice none 0 0 0 0,.int .i64 0]) (n:=2) rfl (l:=[v,.int .i64 (t.seg k).syn]) rfl (flat_seg q3 _ _)
 have l1:=ht2.cl.ld 1 (v:=.map (some m)) rfl
 have v0:=w2.ld 0 (v:=v) rfl
 have v1:=w2.ld 1 (v:=.int .i64 (t.seg k).syn) rfl
 have hfs:=ht2.ok.few_seg k
 simp[eqV,eqOf,AV.addr,l1,q2,Made.value,w1,v0,qaq,allKnown,q3.allKnown]
 refine (clone_spec (Sl.ext x3 q3) (by omega)).mono fun b C2 ⟨x4,hb⟩=>?_
 have x14:=(x12.trans x3).trans x4
 have hs2:=Sl.ext x14 hs
 have hx2:Bs C2 x l:=Sl.ext x14 hx
 have hl1:=hs2.lenV1
 simp at hl1
 simp[hl1]
 have hfree:t.free+usedL t.segs≤1048576∨t.free=0:=by
  have:=ht.ok.room
  unfold TpD.free
  omega
 have hu:=ht.ok.used
 refine Wp.loopK (fun d E A'=>C1.Ext A'∧Env.at E 0=.ptr (some (p,0,0))∧Env.at E 1=.int .i64 k∧Env.at E 8=.ptr (some (C.next,0,0))∧Env.at E 34=s∧Env.at E 35=.int .i64 1∧((d=1∧Env.at E 36=.int .i64 0∧Env.at E 9=b∧C2=A')∨(d=0∧Env.at E 36=.int .i64 1∧∃ b',Env.at E 9=b'∧OwnB C1.next A' b' ((t.seg k).b++l)))) 1 ?_ ?_
 ·exact⟨x4,by simp,by simp,by simp,by simp,by simp,.inl ⟨rfl,by simp,by simp,rfl⟩⟩
 rintro d E A' ⟨x5,e0,e1,e8,e34,e35,h⟩
 rcases h with ⟨rfl,e36,e9,rfl⟩|⟨rfl,e36,b',e9,hb'⟩
 ·obtain⟨q,g1,g2⟩:=hs2.at_one (j:=0) (v:=x) rfl .i64
  simp at g1
  have ea:=add_one (i:=0) (by omega)
  simp at ea
  have hbl:=Bs.len hb.sl
  obtain⟨b',B3,k1,k2,k3,k4,k5⟩:=qpq (bytes:=1) hb hx2 x4.next (by decide) (bytesV_flat _) (by rw[hbl,Bs.len hx2];omega) (by rw[hbl,Bs.len hx2];omega)
  simp[e34,e35,e36,e9,g1,g2,k1]
  refine⟨k4.ext x4 hb,e0,e1,e8,by decide,?_⟩
  show AM.Own C1.next B3 1 b' (bytesV _)
  rw[qzq];exact k3
 ·have x15:=(x12.trans x3).trans x5
  have ht5:=ht.ext x15
  have hA5:=hA.ext x15
  have v1':=(w2.ext x5).ld 1 (v:=.int .i64 (t.seg k).syn) rfl
  have hro:RoS K b':=fun f hf=>hA.fresh f (Nat.le_trans (x12.trans x3).next (hb'.into hf))
  have hb1:Bs A' b' ((t.seg k).b++l):=hb'.sl
  simp[e0,e1,e8,e9,e34,e35,e36,AV.addr,v1',fillA,splice,hb1.notBot,hb1.cells,aggV,qaq,allKnown]
  refine (change_spec HX hA5 ht5 (d:=⟨(t.seg k).b++l,(t.seg k).syn⟩) hb1 hro (ok_put ht.ok z1 (by simp;omega) ?_ y2)).mono fun r C3 ⟨e1,e2,e3⟩=>?_
  ·simp;omega
  ·subst e3
   simp
   exact⟨(Mod.of_ext x15).trans e1,e2⟩
end
section
variable {D:Disp} {G0:Env} {X:Calls'} {A0:St}
theorem len_spec {b:Nat} {K:Nat→Nat} {A:St} {p m:Nat} {t:TpD} (ht:TpC b K A p m t) {k:Int} :
  Ev D G0 fnsL X 268 [.ptr (some (p,0,0)),.int .i64 k] A fun r B=>A=B∧r=.int .i64 (t.len k:Nat):=by
 refine Ev.fnK (fn:=a268) rfl ⟨by simp[a268],by decide⟩ ?_
 unfold a268
 have l1:=ht.cl.ld 1 (v:=.map (some m)) rfl
 obtain⟨v,q1,q2,q3,q4⟩:=ht.look k
 simp[eqV,eqOf,AV.addr,l1,q2,fieldV,partOf,q3.lenV]
 rfl
theorem read_spec (HX:RowsX X A0) {b:Nat} {K:Nat→Nat} {A:St} (hA:Wld K A0 A) {p m:Nat} {t:TpD} (ht:TpC b K A p m t) {k:Int} :
  Ev D G0 fnsL X 350 [.ptr (some (p,0,0)),.int .i64 k] A fun r B=>A.Ext B∧∃ v e,r=.tuple [v,e]∧((0≤k∧k≤1048576)→OwnB A.next B v (t.seg k).b):=by
 refine Ev.fnK (fn:=a350) rfl ⟨by simp[a350],by decide⟩ ?_
 unfold a350
 have l1:=ht.cl.ld 1 (v:=.map (some m)) rfl
 simp[eqV,eqOf,qaq,allKnown]
 refine (named_spec (s:=k)).mono fun r B ⟨x1,h1⟩=>?_
 rcases h1 with ⟨h0,rfl⟩|⟨h0,n,ty,u,hk,rfl,h2⟩
 ·have ht:=ht.ext x1
  have l1:=ht.cl.ld 1 (v:=.map (some m)) rfl
  obtain⟨v,q1,q2,q3,q4⟩:=ht.look k
  obtain⟨C1,w1,x3,w2⟩:=local_put B (cs:=[.slice none 0 0 0 0,.int .i64 0]) (n:=2) rfl (l:=[v,.int .i64 (t.seg k).syn]) rfl (flat_seg q3 _ _)
  have v0:=w2.ld 0 (v:=v) rfl
  have hfs:=ht.ok.few_seg k
  cases ha:assoc k t.segs with
  | none=>
   simp[eqV,eqOf,AV.addr,l1,q1,ha,Made.value,w1]
   have e:(t.seg k).b=[]:=by unfold TpD.seg;rw[ha];rfl
   rw[e]
   exact⟨x1.trans x3,fun _ _=>.nil _ _ _⟩
  | some d=>
   simp[eqV,eqOf,AV.addr,l1,q1,ha,Made.value,w1,v0,qaq,allKnown,q3.allKnown]
   refine (clone_spec (Sl.ext x3 q3) (by omega)).mono fun b C2 ⟨x4,hb⟩=>?_
   simp[hb.sl.known]
   exact⟨(x1.trans x3).trans x4,fun _ _=>hb.mono (x1.trans x3).next⟩
 ·have hbad:k<0∨1048576<k:=by
   by_cases h:k<0∨1048576<k
   ·exact h
   ·rw[if_neg h] at h0;exact absurd rfl h0
  simp[eqV,eqOf,qaq,allKnown]
  refine (qvq HX (hA.glob.trans x1) (h2.ev hk)).mono fun r C ⟨e1,e2⟩=>?_
  subst e1 e2
  simp
  exact⟨x1,fun _ _=>by omega⟩
theorem down_spec {b:Nat} {K:Nat→Nat} {A:St} {p m:Nat} {t:TpD} (ht:TpC b K A p m t):Ev D G0 fnsL X 19 [.ptr (some (p,0,0))] A fun r B=>A=B∧r=.bool t.down:=by
 refine Ev.fnK (fn:=a19) rfl ⟨by simp[a19],by decide⟩ ?_
 unfold a19
 have l3:=ht.cl.ld 3 (v:=.bool t.down) rfl
 simp[eqV,eqOf,AV.addr,l3]
theorem fuse_spec {b:Nat} {K:Nat→Nat} {A:St} {p m:Nat} {t:TpD} (ht:TpC b K A p m t) {n:Int} (hn:n<9223372036854775808):Ev D G0 fnsL X 18 [.ptr (some (p,0,0)),.int .i64 n] A fun r B=>Mod (fun f=>f=p∨f=m) A B∧TpC b K B p m (t.fuseTo n)∧r=.tuple []:=by
 refine Ev.fnK (fn:=a18) rfl ⟨by simp[a18],by decide⟩ ?_
 unfold a18
 have l3:=ht.cl.ld 3 (v:=.bool t.down) rfl
 unfold TpD.fuseTo
 cases hd:t.down with
 | true=>
  rw[hd] at l3
  simp[eqV,eqOf,AV.addr,l3]
  exact⟨Mod.refl A,ht⟩
 | false=>
  rw[hd] at l3
  obtain⟨st1,st2⟩:=ht.cl.st 2 (by simp) (v:=.int .i64 (max n (-1))) rfl rfl rfl
  simp at st1 st2
  have em:=fun (E:Env) (x y:Operand) (h1:ev E x=.int .i64 n) (h2:ev E y=.int .i64 (-1))=>pure_mm2 (b:=true) h1 h2
  have hm:Mod (fun f=>f=p∨f=m) A (A.put p (.cells [.int .i64 t.room,.map (some m),.int .i64 (max n (-1)),.bool t.down] [⟨0,0,4,1⟩] 1 false)):=mod_put A p _ (.inl rfl)
  simp[eqV,eqOf,AV.addr,l3]
  rw[em _ _ _ (by simp) (by simp)]
  simp[eqV,eqOf,AV.addr,l3,st1]
  refine⟨hm,?_⟩
  obtain⟨l,c,h1,h2⟩:=ht.ex
  have hok:=ht.ok
  have hmp:Mod (fun f=>f=p) A (A.put p (.cells [.int .i64 t.room,.map (some m),.int .i64 (max n (-1)),.bool t.down] [⟨0,0,4,1⟩] 1 false)):=mod_put A p _ rfl
  exact⟨by have h:=st2;simp only[hd] at h ⊢;exact h,⟨l,c,h1.mod hmp (fun h=>ht.ne h.symm),h2.mono fun v _ d hd=>hd.mod hmp fun f hf=>by subst hf;rw[ht.kp];omega⟩,ht.kp,ht.km,ht.ne,⟨hok.room,hok.used,hok.syn,hok.keys,hok.few,by simp only;omega⟩⟩
end
end Go.Proofs.YtlaoookdegmnnaaGreatDoor
namespace Go.AM

theorem insB_lt {x:Int}:∀ {l:List Int},(∀ y∈l,x<y)→insB leI x l=x::l
 | [],_=>rfl
 | y::l,h=>by
  have:=h y List.mem_cons_self
  unfold insB
  rw[show leI x y=true by simp[leI];omega]
  rfl
theorem sortB_lt:∀ {l:List Int},l.Pairwise (·<·)→sortB leI l=l
 | [],_=>rfl
 | x::l,h=>by
  rw[List.pairwise_cons] at h
  show insB leI x (sortB leI l)=_
  rw[sortB_lt h.2,insB_lt h.1]

def fullS (x:Int × List (List UInt8)):Int × SegD:=(x.1,⟨fr x.2,(fr x.2).length⟩)
structure Segs (L:List (Int × List (List UInt8))):Prop where
 up:(L.map (·.1)).Pairwise (·<·)
 lo:∀ x∈L,0≤x.1∧x.1≤1048576
 some:∀ x∈L,x.2≠[]
 small:∀ x∈L,∀ m∈x.2,m.length≤16384
theorem keysA_full (L:List (Int × List (List UInt8))):keysA (L.map fullS)=L.map (·.1):=by simp[keysA,fullS]
theorem assoc_full:∀ {L:List (Int × List (List UInt8))} {x:Int × List (List UInt8)},(L.map (·.1)).Pairwise (·<·)→x∈L→assoc x.1 (L.map fullS)=some ⟨fr x.2,(fr x.2).length⟩
 | [],_,_,h=>by cases h
 | y::L,x,hp,h=>by
  rw[List.map_cons,List.pairwise_cons] at hp
  show (if y.1=x.1 then _ else _)=_
  rcases List.mem_cons.1 h with rfl|h
  ·rw[if_pos rfl]
  ·have:=hp.1 x.1 (List.mem_map.2 ⟨x,h,rfl⟩)
   rw[if_neg (by omega)]
   exact assoc_full hp.2 h
theorem fr_pos {F:List (List UInt8)} (h:F≠[]):7≤(fr F).length:=by
 cases F with
 | nil=>exact absurd rfl h
 | cons m F=>simp only[fr,List.length_append,qmq];omega
theorem bodies_fr {F:List (List UInt8)} (h:∀ m∈F,m.length≤16384):bodies (fr F)=F:=by
 have e:=bodies_cut (c:=(fr F).length) h
 rw[List.take_length] at e
 rw[e]
 have key:∀ (F:List (List UInt8)) (c:Nat),(fr F).length≤c→wh c F=F:=by
  intro F
  induction F with
  | nil=>intro c _;rfl
  | cons m F ih=>
   intro c hc
   simp only[fr,List.length_append,qmq] at hc
   unfold wh
   rw[if_pos (by omega),ih _ (by omega)]
 exact key F _ (Nat.le_refl _)
theorem span_fr (F:List (List UInt8)):span F=(fr F).length:=(fr_length F).symm

structure Calm (t:TpD):Prop where
 fuse:t.fuse=-1
 down:t.down=false
theorem Calm.spend {t:TpD} (h:Calm t):t.spend=(true,t):=by
 unfold TpD.spend
 rw[h.fuse]
 rfl
theorem there_in {t:TpD} {k:Int} (hd:t.down=false) (h0:0≤k) (h1:k≤1048576) (hk:assoc k t.segs≠none) (made:Bool):t.there k made=0:=by
 unfold TpD.there
 rw[if_neg (by omega),hd,if_neg (by simp),if_neg (fun h=>hk h.2)]
theorem Calm.drop {t:TpD} (h:Calm t) {k:Int} (h0:0≤k) (h1:k≤1048576) (hk:assoc k t.segs≠none):t.drop k=(0,{ t with segs:=delA k t.segs }):=by
 unfold TpD.drop
 rw[there_in h.down h0 h1 hk,h.spend]
 rfl
theorem Calm.trim {t:TpD} (h:Calm t) {k:Int} (h0:0≤k) (h1:k≤1048576) (hk:assoc k t.segs≠none) {n:Nat} (hn:n≤(t.seg k).b.length):t.trim k n=(0,{ t with segs:=putA k ⟨(t.seg k).b.take n,min (t.seg k).syn n⟩ t.segs }):=by
 unfold TpD.trim TpD.change
 rw[there_in h.down h0 h1 hk,h.spend,if_neg (by simp),if_neg (by omega)]
 simp

def content:List (List (List UInt8))→List UInt8 × List (List UInt8)
 | []=>([],[])
 | l::L=>if L.any isSaved=true then content L else ((if isSaved l=true then (tailH l) else []),plainOf l++(L.map plainOf).flatten)

theorem firstL_none {t:TpD}:∀ (ks:List Int) (i f:Nat),(∀ k∈ks,isSaved (bodies (t.seg k).b)=false)→firstL t i ks f=f
 | [],_,_,_=>rfl
 | k::ks,i,f,h=>by
  unfold firstL
  rw[h k List.mem_cons_self]
  exact firstL_none ks (i+1) f fun q hq=>h q (List.mem_cons_of_mem _ hq)
theorem firstL_ge {t:TpD}:∀ (ks:List Int) (i f:Nat),(∃ k∈ks,isSaved (bodies (t.seg k).b)=true)→i≤firstL t i ks f∧∀ g,firstL t i ks g=firstL t i ks f
 | [],_,_,h=>by obtain⟨_,h,_⟩:=h;cases h
 | k::ks,i,f,h=>by
  by_cases hr:∃ q∈ks,isSaved (bodies (t.seg q).b)=true
  ·unfold firstL
   obtain⟨h1,h2⟩:=firstL_ge ks (i+1) (if isSaved (bodies (t.seg k).b)=true then i else f) hr
   exact⟨by omega,fun g=>h2 _⟩
  ·have hk:isSaved (bodies (t.seg k).b)=true:=by
    obtain⟨q,hq,hs⟩:=h
    rcases List.mem_cons.1 hq with rfl|hq
    ·exact hs
    ·exact absurd ⟨q,hq,hs⟩ hr
   have hno:∀ q∈ks,isSaved (bodies (t.seg q).b)=false:=fun q hq=>by
    cases hs:isSaved (bodies (t.seg q).b) with
    | false=>rfl
    | true=>exact absurd ⟨q,hq,hs⟩ hr
   unfold firstL
   rw[hk,if_pos rfl,firstL_none ks _ _ hno]
   exact⟨Nat.le_refl _,fun g=>by rw[if_pos rfl,firstL_none ks _ _ hno]⟩

theorem seg_full {t:TpD} {L:List (Int × List (List UInt8))} (ht:t.segs=L.map fullS) (h:Segs L) {x:Int × List (List UInt8)} (hx:x∈L):t.seg x.1=⟨fr x.2,(fr x.2).length⟩:=by
 unfold TpD.seg
 rw[ht,assoc_full h.up hx]
 rfl
theorem seg_bodies {t:TpD} {L:List (Int × List (List UInt8))} (ht:t.segs=L.map fullS) (h:Segs L) {x:Int × List (List UInt8)} (hx:x∈L):bodies (t.seg x.1).b=x.2:=by
 rw[seg_full ht h hx,bodies_fr (h.small x hx)]
theorem Segs.tail {x:Int × List (List UInt8)} {L:List (Int × List (List UInt8))} (h:Segs (x::L)):Segs L:=
 ⟨by have:=h.up;rw[List.map_cons,List.pairwise_cons] at this;exact this.2,fun y hy=>h.lo y (List.mem_cons_of_mem _ hy),fun y hy=>h.some y (List.mem_cons_of_mem _ hy),fun y hy=>h.small y (List.mem_cons_of_mem _ hy)⟩
theorem keys_full {t:TpD} {L:List (Int × List (List UInt8))} (ht:t.segs=L.map fullS) (h:Segs L):t.keys=L.map (·.1):=by
 unfold TpD.keys
 rw[ht,keysA_full,sortB_lt h.up]
theorem delA_head {x:Int × List (List UInt8)} {L:List (Int × List (List UInt8))}:delA x.1 ((x::L).map fullS)=L.map fullS:=by
 rw[List.map_cons]
 show (if x.1=x.1 then _ else _)=_
 rw[if_pos rfl]

theorem load_rest {first:Nat}:∀ {L:List (Int × List (List UInt8))} {t:TpD} {L0:List (Int × List (List UInt8))} {i:Nat} {j:JoD},first<i→j.t.segs=L0.map fullS→Segs L0→(∀ x∈L,x∈L0)→loadL first i (L.map (·.1)) j=(0,{ j with recs:=j.recs++(L.map fun x=>plainOf x.2).flatten })
 | [],_,_,_,j,_,_,_,_=>by simp[loadL]
 | x::L,t,L0,i,j,hi,hj,h0,hsub=>by
  rw[List.map_cons]
  unfold loadL
  rw[if_neg (by omega)]
  have hb:=seg_bodies hj h0 (hsub x List.mem_cons_self)
  have hst:(if i=first∧isSaved x.2=true then (tailH x.2) else j.state)=j.state:=if_neg (by omega)
  simp only[hb,hst]
  rw[load_rest (t:=t) (L0:=L0) (by omega) (by exact hj) h0 (fun y hy=>hsub y (List.mem_cons_of_mem _ hy))]
  simp
theorem load_all:∀ {L:List (Int × List (List UInt8))} {first i:Nat} {j:JoD},j.t.segs=L.map fullS→Segs L→Calm j.t→i≤first→first<i+L.length→∃ t',Calm t'∧t'.room=j.t.room ∧
  loadL first i (L.map (·.1)) j=(0,⟨t',j.seg,j.cur,(match L[first - i]? with|some x=>(if isSaved x.2=true then (tailH x.2) else j.state)|none=>j.state),j.recs++((L.drop (first - i)).map fun x=>plainOf x.2).flatten⟩)∧t'.segs=(L.drop (first - i)).map fullS
 | [],first,i,j,_,_,_,h1,h2=>by simp at h2;omega
 | x::L,first,i,j,ht,h,hc,h1,h2=>by
  rw[List.map_cons]
  by_cases hi:i<first
  ·have hx:=h.lo x List.mem_cons_self
   have hk:assoc x.1 j.t.segs≠none:=by rw[ht,assoc_full h.up List.mem_cons_self];simp
   have hd:=hc.drop hx.1 hx.2 hk
   unfold loadL
   rw[if_pos hi,hd]
   simp only[ne_eq,not_true,if_false]
   obtain⟨t',q1,q2,q3,q4⟩:=load_all (L:=L) (first:=first) (i:=i+1) (j:={ j with t:={ j.t with segs:=delA x.1 j.t.segs } }) (by simp only[ht];exact delA_head) h.tail ⟨hc.fuse,hc.down⟩ (by omega) (by simp at h2;omega)
   refine⟨t',q1,q2,?_,?_⟩
   ·rw[show first - i=(first - (i+1))+1 by omega,List.getElem?_cons_succ,List.drop_succ_cons]
    exact q3
   ·rw[show first - i=(first - (i+1))+1 by omega,List.drop_succ_cons]
    exact q4
  ·have hif:i=first:=by omega
   subst hif
   have hb:=seg_bodies ht h List.mem_cons_self
   unfold loadL
   rw[if_neg (by omega)]
   simp only[hb]
   rw[load_rest (t:=j.t) (L0:=x::L) (Nat.lt_succ_self _) (by exact ht) h (fun y hy=>List.mem_cons_of_mem _ hy)]
   refine⟨j.t,hc,rfl,?_,by simp[ht]⟩
   simp only[Nat.sub_self,List.getElem?_cons_zero,List.drop_zero,true_and,List.map_cons,List.flatten_cons,List.append_assoc]

theorem any_saved {t:TpD} {L:List (Int × List (List UInt8))} (ht:∀ x∈L,bodies (t.seg x.1).b=x.2):((L.map (·.2)).any isSaved=true)↔∃ k∈L.map (·.1),isSaved (bodies (t.seg k).b)=true:=by
 rw[List.any_eq_true]
 constructor
 ·rintro ⟨l,hl,hs⟩
  obtain⟨x,hx,rfl⟩:=List.mem_map.1 hl
  exact⟨x.1,List.mem_map.2 ⟨x,hx,rfl⟩,by rw[ht x hx];exact hs⟩
 ·rintro ⟨k,hk,hs⟩
  obtain⟨x,hx,rfl⟩:=List.mem_map.1 hk
  exact⟨x.2,List.mem_map.2 ⟨x,hx,rfl⟩,by rw[←ht x hx];exact hs⟩
theorem content_first {t:TpD}:∀ {L:List (Int × List (List UInt8))} {i:Nat},(∀ x∈L,bodies (t.seg x.1).b=x.2)→L≠[]→∃ f,firstL t i (L.map (·.1)) i=i+f∧f<L.length ∧
  content (L.map (·.2))=((match L[f]? with|some x=>(if isSaved x.2=true then (tailH x.2) else [])|none=>[]),((L.drop f).map fun x=>plainOf x.2).flatten)
 | [],_,_,h=>absurd rfl h
 | x::L,i,ht,_=>by
  have htl:∀ y∈L,bodies (t.seg y.1).b=y.2:=fun y hy=>ht y (List.mem_cons_of_mem _ hy)
  have hx:=ht x List.mem_cons_self
  by_cases hs:(L.map (·.2)).any isSaved=true
  ·have hex:=(any_saved htl).1 hs
   have hne:L≠[]:=by rintro rfl;simp at hs
   obtain⟨f,h1,h2,h3⟩:=content_first (i:=i+1) htl hne
   refine⟨f+1,?_,by simp;omega,?_⟩
   ·rw[List.map_cons]
    unfold firstL
    rw[(firstL_ge _ (i+1) (i+1) hex).2,h1]
    omega
   ·rw[List.map_cons]
    unfold content
    rw[if_pos hs,h3]
    simp
  ·have hno:∀ k∈L.map (·.1),isSaved (bodies (t.seg k).b)=false:=fun k hk=>by
    cases hq:isSaved (bodies (t.seg k).b) with
    | false=>rfl
    | true=>exact absurd ((any_saved htl).2 ⟨k,hk,hq⟩) hs
   refine⟨0,?_,by simp,?_⟩
   ·rw[List.map_cons]
    unfold firstL
    rw[firstL_none _ _ _ hno]
    simp
   ·rw[List.map_cons]
    unfold content
    rw[if_neg hs]
    simp only[List.getElem?_cons_zero,List.drop_zero,List.map_cons,List.flatten_cons,List.map_map]
    rfl

theorem open_full {t:TpD} {L:List (Int × List (List UInt8))} {seg:Int} (ht:t.segs=L.map fullS) (h:Segs L) (hc:Calm t) (hs:16≤seg∧seg≤1048576) :
  ∃ j,joOpen t seg=(0,some j)∧(j.state,j.recs)=content (L.map (·.2))∧Calm j.t∧j.seg=seg∧j.t.room=t.room:=by
 unfold joOpen
 rw[if_neg (by omega),keys_full ht h]
 have hm:∃ c,mendL (L.map (·.1)).reverse t=(0,c,t):=by
  cases hL:L.reverse with
  | nil=>
   have:L=[]:=by simpa using hL
   subst this
   exact⟨-1,rfl⟩
  | cons x r=>
   have hx:x∈L:=by rw[←List.mem_reverse,hL];exact List.mem_cons_self
   rw[←List.map_reverse,hL,List.map_cons]
   refine⟨x.1,?_⟩
   unfold mendL
   rw[seg_bodies ht h hx,if_pos (h.some x hx),span_fr,seg_full ht h hx,if_neg (Nat.lt_irrefl _)]
 obtain⟨c,hm⟩:=hm
 rw[hm]
 simp only[ne_eq,not_true,if_false]
 rw[keys_full ht h]
 cases hL:L with
 | nil=>
  refine⟨⟨t,seg,c,[],[]⟩,?_,rfl,hc,rfl,rfl⟩
  rfl
 | cons x r=>
  rw[←hL]
  obtain⟨f,h1,h2,h3⟩:=content_first (t:=t) (L:=L) (i:=0) (fun x hx=>seg_bodies ht h hx) (by rw[hL];simp)
  rw[h1,Nat.zero_add]
  obtain⟨t',q1,q2,q3,q4⟩:=load_all (first:=f) (i:=0) (j:=⟨t,seg,c,[],[]⟩) ht h hc (Nat.zero_le _) (by omega)
  rw[q3]
  refine⟨_,rfl,?_,q1,rfl,q2⟩
  rw[h3]
  simp only[Nat.sub_zero,List.nil_append]

theorem keys_up {t:TpD} (h:(keysA t.segs).Pairwise (·<·)):t.keys=keysA t.segs:=by unfold TpD.keys;rw[sortB_lt h]
theorem assoc_append {δ:Type} {k:Int}:∀ {a b:List (Int × δ)},assoc k (a++b)=(match assoc k a with|some v=>some v|none=>assoc k b)
 | [],b=>rfl
 | x::a,b=>by
  show (if x.1=k then _ else assoc k (a++b))=_
  by_cases h:x.1=k
  ·rw[if_pos h];simp[assoc,h]
  ·rw[if_neg h,assoc_append];simp[assoc,h]
theorem delA_append {δ:Type} {k:Int} {v:δ}:∀ {a:List (Int × δ)},k∉keysA a→delA k (a++[(k,v)])=a
 | [],_=>by simp[delA]
 | x::a,h=>by
  rw[qyq,List.mem_cons,not_or] at h
  show (if x.1=k then a++[(k,v)] else (x.1,x.2)::delA k (a++[(k,v)]))=_
  rw[if_neg (fun e=>h.1 e.symm),delA_append h.2]
theorem not_mem_up {L:List (Int × List (List UInt8))} {k:Int} (h:∀ x∈L,x.1<k):k∉L.map (·.1):=fun hm=>by
 obtain⟨x,hx,e⟩:=List.mem_map.1 hm
 have:=h x hx
 omega
theorem up_snoc {l:List Int} {k:Int} (h:l.Pairwise (·<·)) (hk:∀ x∈l,x<k):(l++[k]).Pairwise (·<·):=by
 rw[List.pairwise_append]
 exact⟨h,by simp,fun a ha b hb=>by rw[List.mem_singleton] at hb;subst hb;exact hk a ha⟩
theorem Segs.snoc {L:List (Int × List (List UInt8))} (h:Segs L) {k:Int} {F:List (List UInt8)} (hk:∀ x∈L,x.1<k) (h0:0≤k∧k≤1048576) (hF:F≠[]) (hs:∀ m∈F,m.length≤16384):Segs (L++[(k,F)]):=by
 refine⟨?_,fun x hx=>?_,fun x hx=>?_,fun x hx=>?_⟩
 ·rw[List.map_append]
  exact up_snoc h.up (fun q hq=>by obtain⟨x,hx,rfl⟩:=List.mem_map.1 hq;exact hk x hx)
 all_goals
  rcases List.mem_append.1 hx with hx|hx
  ·first|exact h.lo x hx|exact h.some x hx|exact h.small x hx
  ·rw[List.mem_singleton] at hx;subst hx;assumption
theorem open_torn {t:TpD} {L:List (Int × List (List UInt8))} {seg k:Int} {c:List UInt8} {F:List (List UInt8)} (ht:t.segs=L.map fullS++[(k,⟨c,c.length⟩)]) (h:Segs L) (hk:∀ x∈L,x.1<k) (h0:0≤k∧k≤1048576) (hc:Calm t)
  (hb:bodies c=F) (hp:c.take (fr F).length=fr F) (hle:(fr F).length≤c.length) (hsm:∀ m∈F,m.length≤16384) :
  ∃ t',joOpen t seg=joOpen t' seg∧Calm t'∧t'.room=t.room∧Segs (if F=[] then L else L++[(k,F)])∧t'.segs=(if F=[] then L else L++[(k,F)]).map fullS:=by
 have hkn:k∉keysA (L.map fullS):=by rw[keysA_full];exact not_mem_up hk
 have hks:(keysA t.segs).Pairwise (·<·):=by
  rw[ht]
  show (keysA (L.map fullS++[(k,_)])).Pairwise _
  have:keysA (L.map fullS++[(k,(⟨c,c.length⟩:SegD))])=L.map (·.1)++[k]:=by
   rw[←keysA_full];simp[keysA]
  rw[this]
  exact up_snoc h.up (fun q hq=>by obtain⟨x,hx,rfl⟩:=List.mem_map.1 hq;exact hk x hx)
 have hkey:t.keys=L.map (·.1)++[k]:=by
  rw[keys_up hks,ht,←keysA_full];simp[keysA]
 have hseg:t.seg k=⟨c,c.length⟩:=by
  unfold TpD.seg
  rw[ht,assoc_append,assoc_none.2 hkn]
  simp[assoc]
 have hin:assoc k t.segs≠none:=by rw[ht,assoc_append,assoc_none.2 hkn];simp[assoc]
 by_cases hF:F=[]
 ·rw[if_pos hF]
  have hd:=hc.drop h0.1 h0.2 hin
  refine⟨{ t with segs:=delA k t.segs },?_,⟨hc.fuse,hc.down⟩,rfl,h,?_⟩
  ·have hs':({ t with segs:=delA k t.segs }:TpD).segs=L.map fullS:=by
    show delA k t.segs=_
    rw[ht,delA_append hkn]
   unfold joOpen
   rw[hkey,keys_full hs' h,List.reverse_append]
   simp only[List.reverse_cons,List.reverse_nil,List.nil_append,List.singleton_append]
   have:mendL (k::(L.map (·.1)).reverse) t=mendL (L.map (·.1)).reverse { t with segs:=delA k t.segs }:=by
    conv=>lhs;unfold mendL
    rw[hseg]
    simp only[hb,hF,ne_eq,not_true,if_false,hd]
   rw[this]
  ·show delA k t.segs=_
   rw[ht,delA_append hkn]
 ·rw[if_neg hF]
  have hL':=h.snoc hk h0 hF hsm
  by_cases hlt:(fr F).length<c.length
  ·have htr:=hc.trim h0.1 h0.2 hin (n:=(fr F).length) (by rw[hseg];exact hle)
   rw[hseg] at htr
   simp only[hp] at htr
   rw[Nat.min_eq_right hle] at htr
   have hs':({ t with segs:=putA k ⟨fr F,(fr F).length⟩ t.segs }:TpD).segs=(L++[(k,F)]).map fullS:=by
    show putA k _ t.segs=_
    rw[ht,putA_split hkn,List.map_append]
    rfl
   refine⟨{ t with segs:=putA k ⟨fr F,(fr F).length⟩ t.segs },?_,⟨hc.fuse,hc.down⟩,rfl,hL',hs'⟩
   unfold joOpen
   rw[hkey,keys_full hs' hL',List.map_append,List.reverse_append]
   simp only[List.map_cons,List.map_nil,List.reverse_append,List.reverse_cons,List.reverse_nil,List.nil_append,List.singleton_append]
   have e1:mendL (k::(L.map (·.1)).reverse) t=(0,k,{ t with segs:=putA k ⟨fr F,(fr F).length⟩ t.segs }):=by
    unfold mendL
    rw[hseg]
    simp only[hb,ne_eq,hF,not_false_iff,if_true,span_fr,hlt,htr]
   have e2:mendL (k::(L.map (·.1)).reverse) { t with segs:=putA k ⟨fr F,(fr F).length⟩ t.segs }=(0,k,{ t with segs:=putA k ⟨fr F,(fr F).length⟩ t.segs }):=by
    have hsg:=seg_full hs' hL' (x:=(k,F)) (by simp)
    unfold mendL
    rw[hsg]
    simp only[bodies_fr hsm,ne_eq,hF,not_false_iff,if_true,span_fr,Nat.lt_irrefl,if_false]
   rw[e1,e2]
  ·have hcl:c=fr F:=by rw[←hp,List.take_of_length_le (by omega)]
   subst hcl
   exact⟨t,rfl,hc,rfl,hL',by rw[ht,List.map_append];rfl⟩

theorem lasts_full (s:SegD) (h:s.syn=s.b.length) (k:Option Int):lasts s k=s:=by
 obtain⟨b,n⟩:=s
 simp only at h
 subst h
 unfold lasts
 cases k<;>simp
theorem lasts_spec (s:SegD) (h:s.syn≤s.b.length) (k:Option Int):∃ n,s.syn≤n∧n≤s.b.length∧lasts s k=⟨s.b.take n,n⟩:=by
 unfold lasts
 refine⟨_,Nat.le_add_right _ _,?_,rfl⟩
 cases k with
 | none=>simpa using h
 | some x=>simp only;omega
theorem crashL_full {t:TpD}:∀ {L:List (Int × List (List UInt8))} {ks:List Int} {keeps:List Int},(∀ x∈L,t.seg x.1=⟨fr x.2,(fr x.2).length⟩)→(∀ x∈L,x.2≠[]) →
  crashL t (L.map (·.1)++ks) keeps=L.map fullS++crashL t ks (keeps.drop L.length)
 | [],ks,keeps,_,_=>by simp
 | x::L,ks,keeps,h,hne=>by
  rw[List.map_cons,List.cons_append]
  conv=>lhs;unfold crashL
  rw[h x List.mem_cons_self,lasts_full _ rfl,if_pos (by have:=fr_pos (hne x List.mem_cons_self);simp only;omega)]
  rw[crashL_full (fun y hy=>h y (List.mem_cons_of_mem _ hy)) (fun y hy=>hne y (List.mem_cons_of_mem _ hy))]
  cases keeps with
  | nil=>simp;rfl
  | cons a l=>simp;rfl
theorem calm_crash (t:TpD) (keeps:List Int):Calm (t.crash keeps):=⟨rfl,rfl⟩
theorem crash_full {t:TpD} {L:List (Int × List (List UInt8))} (ht:t.segs=L.map fullS) (h:Segs L) (keeps:List Int):(t.crash keeps).segs=L.map fullS:=by
 show crashL t t.keys keeps=_
 rw[keys_full ht h]
 have:=crashL_full (t:=t) (L:=L) (ks:=[]) (keeps:=keeps) (fun x hx=>seg_full ht h hx) h.some
 simp only[List.append_nil] at this
 rw[this]
 simp[crashL]
theorem crash_more {t:TpD} {L:List (Int × List (List UInt8))} {k:Int} {F:List (List UInt8)} {m:List UInt8} (ht:t.segs=L.map fullS++[(k,⟨fr F++frame m,(fr F).length⟩)]) (h:Segs L) (hk:∀ x∈L,x.1<k) (h0:0≤k∧k≤1048576) (hsm:∀ x∈F,x.length≤16384) (hm:m.length≤16384)
  (keeps:List Int) (seg:Int):∃ t' L',joOpen (t.crash keeps) seg=joOpen t' seg∧Calm t'∧Segs L'∧t'.segs=L'.map fullS∧(L'=(if F=[] then L else L++[(k,F)])∨L'=L++[(k,F++[m])]):=by
 have hkn:k∉keysA (L.map fullS):=by rw[keysA_full];exact not_mem_up hk
 have hks:keysA t.segs=L.map (·.1)++[k]:=by rw[ht,←keysA_full];simp[keysA]
 have hkey:t.keys=L.map (·.1)++[k]:=by
  rw[keys_up (by rw[hks];exact up_snoc h.up (fun q hq=>by obtain⟨x,hx,rfl⟩:=List.mem_map.1 hq;exact hk x hx)),hks]
 have hseg:t.seg k=⟨fr F++frame m,(fr F).length⟩:=by
  unfold TpD.seg
  rw[ht,assoc_append,assoc_none.2 hkn]
  simp[assoc]
 have hsegs:∀ x∈L,t.seg x.1=⟨fr x.2,(fr x.2).length⟩:=fun x hx=>by
  unfold TpD.seg
  rw[ht,assoc_append,assoc_full h.up hx]
  rfl
 obtain⟨n,n1,n2,n3⟩:=lasts_spec (t.seg k) (by rw[hseg];simp) (keeps.drop L.length).head?
 have hsegc:(t.crash keeps).segs=L.map fullS++(if 0<n then [(k,⟨(fr F++frame m).take n,n⟩)] else []):=by
  show crashL t t.keys keeps=_
  rw[hkey,crashL_full hsegs h.some]
  congr 1
  unfold crashL
  rw[n3,hseg]
  simp[crashL]
 rw[hseg] at n1 n2
 simp only[List.length_append,qmq] at n1 n2
 by_cases hn:0<n
 ·rw[if_pos hn] at hsegc
  have hall:∀ x∈F++[m],x.length≤16384:=fun x hx=>by
   rcases List.mem_append.1 hx with hx|hx
   ·exact hsm x hx
   ·rw[List.mem_singleton] at hx;subst hx;exact hm
  have hfr:fr F++frame m=fr (F++[m]):=by rw[fr_append];simp[fr]
  have hlen:((fr F++frame m).take n).length=n:=by simp only[List.length_take,List.length_append,qmq];omega
  have hbod:bodies ((fr F++frame m).take n)=wh n (F++[m]):=by rw[hfr];exact bodies_cut hall
  have hwh:wh n (F++[m])=if n=(fr F).length+(m.length+7) then F++[m] else F:=by
   clear hbod hlen hfr hall hsegc hsegs hseg n3 hkey hks hkn ht hn
   revert n1 n2
   induction F generalizing n with
   | nil=>
    intro n1 n2
    simp only[List.nil_append,wh,fr,List.length_nil,Nat.zero_add] at *
    by_cases he:n=m.length+7
    ·rw[if_pos (by omega),if_pos he]
    ·rw[if_neg (by omega),if_neg he]
   | cons x F ih=>
    intro n1 n2
    simp only[fr,List.length_append,qmq] at n1 n2
    simp only[List.cons_append,wh]
    rw[if_pos (by omega),ih (fun y hy=>hsm y (List.mem_cons_of_mem _ hy)) (n - (x.length+7)) (by omega) (by omega)]
    simp only[fr,List.length_append,qmq]
    by_cases he:n=x.length+7+(fr F).length+(m.length+7)
    ·rw[if_pos (by omega),if_pos he]
    ·rw[if_neg (by omega),if_neg he]
  have key:∀ G,wh n (F++[m])=G→(fr G).length≤n→(fr (F++[m])).take (fr G).length=fr G→(∀ x∈G,x.length≤16384)→∃ t',joOpen (t.crash keeps) seg=joOpen t' seg∧Calm t'∧Segs (if G=[] then L else L++[(k,G)])∧t'.segs=(if G=[] then L else L++[(k,G)]).map fullS:=fun G hG hle hpre hsmG=>by
   have hc:(t.crash keeps).segs=L.map fullS++[(k,⟨(fr F++frame m).take n,((fr F++frame m).take n).length⟩)]:=by rw[hlen];exact hsegc
   obtain⟨t',q1,q2,_,q3,q4⟩:=open_torn (seg:=seg) hc h hk h0 (calm_crash t keeps) (hbod.trans hG) (by rw[hfr,List.take_take,Nat.min_eq_left hle];exact hpre) (by rw[hlen];exact hle) hsmG
   exact⟨t',q1,q2,q3,q4⟩
  by_cases he:n=(fr F).length+(m.length+7)
  ·rw[if_pos he] at hwh
   obtain⟨t',q1,q2,q3,q4⟩:=key _ hwh (by rw[fr_append];simp[fr,qmq];omega) (by rw[List.take_length]) hall
   rw[if_neg (by simp)] at q3 q4
   exact⟨t',_,q1,q2,q3,q4,.inr rfl⟩
  ·rw[if_neg he] at hwh
   obtain⟨t',q1,q2,q3,q4⟩:=key _ hwh n1 (by rw[fr_append,List.take_left]) hsm
   exact⟨t',_,q1,q2,q3,q4,.inl rfl⟩
 ·rw[if_neg hn,List.append_nil] at hsegc
  have hF:F=[]:=by
   by_cases hF:F=[]
   ·exact hF
   ·have:=fr_pos hF;omega
  exact⟨t.crash keeps,L,rfl,calm_crash t keeps,h,hsegc,.inl (by rw[if_pos hF])⟩
end Go.AM
namespace Go.Proofs.YtlaoookdegmnnaaGreatDoor
open Go.AM
section
variable {D:Disp} {G0:Env} {X:Calls'} {A0:St}
def kTape (b:Nat) (K:Nat→Nat) (n:Nat):Nat→Nat:=fun f=>if f=n∨f=n+1 then b+1 else K f
theorem kTape_up (b:Nat) (K:Nat→Nat) (A:St):KUp K (kTape b K A.next) A:=fun f hf=>by unfold kTape;rw[if_neg (by omega)]
theorem kTape_fresh {b:Nat} {K:Nat→Nat} {A B:St} (h:KFresh K A) (hB:A.next+2≤B.next):KFresh (kTape b K A.next) B:=fun f hf=>by unfold kTape;rw[if_neg (by omega)];exact h f (by omega)
def crashOne (t:TpD) (k:Int) (o:Option Int):List (Int × SegD):=if 0<(lasts (t.seg k) o).syn then [(k,lasts (t.seg k) o)] else []
theorem crash_cons (t:TpD) (k:Int) (ks keeps:List Int):crashL t (k::ks) keeps=crashOne t k keeps.head?++crashL t ks keeps.tail:=by
 unfold crashOne
 simp only[crashL]
theorem lasts_syn (s:SegD) (x:Int):(lasts s (some x)).syn=s.syn+min (max x 0).toNat (s.b.length - s.syn):=rfl
theorem crash_snoc {t:TpD}:∀ {ks:List Int} {k:Int} {keeps:List Int},crashL t (ks++[k]) keeps=crashL t ks keeps++crashOne t k keeps[ks.length]?
 | [],k,keeps=>by
  rw[List.nil_append,crash_cons]
  cases keeps<;>simp[crashL]
 | x::ks,k,keeps=>by
  have ih:=crash_snoc (t:=t) (ks:=ks) (k:=k) (keeps:=keeps.tail)
  have e:keeps.tail[ks.length]?=keeps[(x::ks).length]?:=by cases keeps<;>simp
  rw[e] at ih
  rw[List.cons_append,crash_cons,crash_cons,ih,List.append_assoc]
theorem crash_mem {t:TpD}:∀ {ks keeps:List Int} {x:Int × SegD},x∈crashL t ks keeps→x.1∈ks∧∃ o,x.2=lasts (t.seg x.1) o
 | [],_,_,h=>by cases h
 | k::ks,keeps,x,h=>by
  rw[crash_cons,List.mem_append] at h
  rcases h with h|h
  ·unfold crashOne at h
   split at h
   ·have h:x=(k,lasts (t.seg k) keeps.head?):=by simpa using h
    subst h
    exact⟨List.mem_cons_self,_,rfl⟩
   ·cases h
  ·obtain⟨h1,h2⟩:=crash_mem h
   exact⟨List.mem_cons_of_mem _ h1,h2⟩
theorem crash_used {t:TpD}:∀ {ks keeps:List Int},(∀ k∈ks,(t.seg k).syn≤(t.seg k).b.length)→usedL (crashL t ks keeps)≤(ks.map (lenK t.segs)).sum∧(crashL t ks keeps).length≤ks.length
 | [],_,_=>by simp[crashL,usedL]
 | k::ks,keeps,h=>by
  have ih:=crash_used (ks:=ks) (keeps:=keeps.tail) fun x hx=>h x (List.mem_cons_of_mem _ hx)
  obtain⟨n,h1,h2,h3⟩:=lasts_spec (t.seg k) (h k List.mem_cons_self) keeps.head?
  rw[crash_cons]
  unfold crashOne
  have hk:lenK t.segs k=(t.seg k).b.length:=rfl
  split
  ·rw[h3]
   simp only[List.cons_append,List.nil_append,usedL,List.map_cons,List.sum_cons,List.length_cons,List.length_take,hk]
   omega
  ·simp only[List.nil_append,List.map_cons,List.sum_cons,List.length_cons]
   omega
theorem seg_ok {t:TpD} (h:TpOk t) (k:Int):(t.seg k).syn≤(t.seg k).b.length:=(h.few_seg k).2
theorem crash_ok {b:Nat} {K:Nat→Nat} {A:St} {p m:Nat} {t:TpD} (h:TpC b K A p m t) (i:Nat) (keeps:List Int):TpOk ⟨t.room,crashL t (t.keys.take i) keeps,-1,false⟩:=by
 have hu:=crash_used (t:=t) (ks:=t.keys.take i) (keeps:=keeps) fun k _=>seg_ok h.ok k
 have hs:((t.keys.map (lenK t.segs)).take i).sum≤usedL t.segs:=by
  refine Nat.le_trans (sum_take_le _ _) ?_
  show ((sortB leI (keysA t.segs)).map (lenK t.segs)).sum≤_
  rw[sum_sorted (TpC_nodup h)]
  exact Nat.le_refl _
 rw[←List.map_take] at hs
 have hkl:t.keys.length≤64:=by unfold TpD.keys;rw[(qrq leI _).length_eq];simpa[keysA] using h.ok.few
 have hok:=h.ok
 refine⟨hok.room,Nat.le_trans hu.1 (Nat.le_trans hs hok.used),fun x hx=>?_,fun x hx=>?_,Nat.le_trans hu.2 (by rw[List.length_take];omega),by simp⟩
 ·obtain⟨_,o,ho⟩:=crash_mem hx
  obtain⟨n,h1,h2,h3⟩:=lasts_spec (t.seg x.1) (seg_ok hok _) o
  rw[ho,h3]
  simp only[List.length_take]
  omega
 ·have hk:=List.mem_of_mem_take (crash_mem hx).1
  have hk2:x.1∈keysA t.segs:=(qrq leI _).mem_iff.1 hk
  obtain⟨y,hy,e⟩:=List.mem_map.1 hk2
  rw[←e]
  exact hok.keys y hy
theorem new_tape {b:Nat} {K:Nat→Nat} {A B:St} {t:TpD} (ht:t.segs=[]) (hok:TpOk t) (hB:A.next+2≤B.next) (hm:B.get A.next=some (.map [] 0)) (hc:Cl B (A.next+1) [.int .i64 t.room,.map (some A.next),.int .i64 t.fuse,.bool t.down]) :
  TpC b (kTape b K A.next) B (A.next+1) A.next t:=
 ⟨hc,⟨[],0,⟨by omega,hm,by simp,List.Pairwise.nil,fun _ h=>by cases h⟩,by rw[ht];trivial⟩,by simp[kTape],by simp[kTape],by omega,hok⟩
theorem newT_spec {A:St} {b:Nat} {K:Nat→Nat} {room:Int} (hr:0≤room∧room≤1048576):Ev D G0 fnsL X 63 [.int .i64 room] A fun r B=>A.Ext B∧A.next+2≤B.next∧r=.tuple [.ptr (some (A.next+1,0,0)),.int .i64 0]∧TpC b (kTape b K A.next) B (A.next+1) A.next (tpNew room):=by
 refine Ev.fnK (fn:=a63) rfl ⟨by simp[a63],by decide⟩ ?_
 unfold a63
 have h1:¬room<0:=by omega
 have h2:¬1048576<room:=by omega
 simp[h1,h2,eff_mkMap,fillA,splice,aggV,boxV,Made.value]
 have x1:=ext_push A (.map [] 0)
 have hg:(A.push (.map [] 0)).get A.next=some (.map [] 0):=by rw[St.get_push,if_pos rfl]
 have hn:(A.push (.map [] 0)).next=A.next+1:=rfl
 generalize A.push (.map [] 0)=A1 at *
 have x2:=qdq A1 [.int .i64 room,.map (some A.next),.int .i64 (-1),.bool false] 1
 have hc:=Cl.make A1 [.int .i64 room,.map (some A.next),.int .i64 (-1),.bool false]
 have hlt:=hc.lt
 rw[hn] at hc
 have hg2:=(x2.get A.next (by omega)).trans hg
 exact⟨x1.trans x2,by omega,new_tape (t:=tpNew room) rfl ⟨hr,by simp[tpNew,usedL],by simp[tpNew],by simp[tpNew],by simp[tpNew],by simp[tpNew]⟩ (by omega) hg2 hc⟩
set_option maxHeartbeats 2000000 in
theorem crash_spec (HX:RowsX X A0) {b b':Nat} {K:Nat→Nat} {A:St} (hA:Wld K A0 A) {p m:Nat} {t:TpD} (ht:TpC b K A p m t) {s:AV} {keeps:List Int} (hs:Sl A 1 s (keeps.map (AV.int .i64))) (hkp:∀ x∈keeps,x<9223372036854775808) (hkl:keeps.length<2^40) :
  Ev D G0 fnsL X 25 [.ptr (some (p,0,0)),s] A fun r B=>A.Ext B∧A.next+2≤B.next∧r=.ptr (some (A.next+1,0,0))∧TpC b' (kTape b' K A.next) B (A.next+1) A.next (t.crash keeps):=by
 refine Ev.fnK (fn:=a25) rfl ⟨by simp[a25],by decide⟩ ?_
 unfold a25
 have l0:=ht.cl.ld 0 (v:=.int .i64 t.room) rfl
 simp[eqV,eqOf,AV.addr,l0,eff_mkMap,fillA,splice,aggV,boxV,Made.value]
 have x1:=ext_push A (.map [] 0)
 have hg:(A.push (.map [] 0)).get A.next=some (.map [] 0):=by rw[St.get_push,if_pos rfl]
 have hn:(A.push (.map [] 0)).next=A.next+1:=rfl
 generalize A.push (.map [] 0)=A1 at *
 have x2:=qdq A1 [.int .i64 t.room,.map (some A.next),.int .i64 (-1),.bool false] 1
 have hc:=Cl.make A1 [.int .i64 t.room,.map (some A.next),.int .i64 (-1),.bool false]
 have hlt:=hc.lt
 rw[hn] at hc
 have hg2:=(x2.get A.next (by omega)).trans hg
 have hnew:=new_tape (b:=b') (K:=K) (A:=A) (t:=⟨t.room,[],-1,false⟩) rfl ⟨ht.ok.room,by simp[usedL],by simp,by simp,by simp,by simp⟩ (by omega) hg2 hc
 generalize (A1.make [.int .i64 t.room,.map (some A.next),.int .i64 (-1),.bool false] 1).2=A2 at *
 have x12:=x1.trans x2
 have hA2:=hA.ext x12
 have ht2:=ht.ext x12
 simp[qaq,allKnown,hn]
 refine (segs_spec HX hA2.glob ht2).mono fun r B ⟨x3,hr,_⟩=>?_
 have hlen:=hr.lenV1
 simp at hlen
 simp[hlen]
 have ht3:=ht2.ext x3
 have hok:=ht.ok
 have hkn:t.keys.Nodup:=(qrq leI _).nodup_iff.2 (TpC_nodup ht)
 have hkl64:t.keys.length≤64:=by unfold TpD.keys;rw[(qrq leI _).length_eq];simpa[keysA] using hok.few
 have hwn:∀ f,f=A.next+1∨f=A.next→¬f<A.next:=by omega
 refine Wp.loopK (fun d E A'=>Mod (fun f=>f=A.next) B A'∧Env.at E 0=.ptr (some (p,0,0))∧Env.at E 1=s∧Env.at E 5=.ptr (some (A.next+1,0,0))∧Env.at E 20=r∧Env.at E 21=.int .i64 t.keys.length∧∃ i:Nat,Env.at E 22=.int .i64 i∧i+d=t.keys.length∧TpC b' (kTape b' K A.next) A' (A.next+1) A.next ⟨t.room,crashL t (t.keys.take i) keeps,-1,false⟩) t.keys.length ?_ ?_
 ·exact⟨Mod.refl _,by simp,by simp,by simp,by simp,by simp,0,by simp,by simp,by simpa[crashL] using hnew.ext x3⟩
 rintro d E A' ⟨md,e0,e1,e5,e20,e21,i,e22,hi,hT⟩
 simp[e21,e22,qoq,-qjq]
 refine qeq (fun hc=>?_) (fun hc=>?_)
 ·simp at hc
  have hk:t.keys[i]?=some t.keys[i]:=List.getElem?_eq_getElem hc
  have xB:=x12.trans x3
  have ht':TpC b (kTape b' K A.next) A' p m t:=((ht.up (kTape_up b' K A)).ext xB).modp md (by have:=ht.cl.lt;omega) (by obtain⟨l,c,h1,_⟩:=ht.ex;have:=h1.lt;omega) (fun f hf=>by subst hf;simp[kTape])
  have hgB:=x3.get A.next (by have:=hnew.cl.lt;omega)
  have hr':Sl A' 1 r (t.keys.map (AV.int .i64)):=hr.mod md fun f hf hW=>by
   subst hW
   rw[not_map (hgB.trans hg2) hr] at hf
   cases hf
  have hs':Sl A' 1 s (keeps.map (AV.int .i64)):=(Sl.ext xB hs).mod md fun f hf hW=>by have:=Sl.into_lt hs hf;omega
  obtain⟨q,g1,g2⟩:=hr'.at_one (j:=i) (v:=.int .i64 t.keys[i]) (by rw[List.getElem?_map,hk];rfl) .i64
  have hls:=hs'.lenV1
  rw[List.length_map] at hls
  have hnk:t.keys[i]∉t.keys.take i:=fun h=>by
   obtain⟨j,hj,e⟩:=List.mem_iff_getElem.1 h
   rw[List.getElem_take] at e
   rw[List.length_take] at hj
   have:=(List.getElem_inj hkn).1 e
   omega
  have hsnoc:=crash_snoc (t:=t) (ks:=t.keys.take i) (k:=t.keys[i]) (keeps:=keeps)
  rw[←take_succ_of hk,show (t.keys.take i).length=i by rw[List.length_take];omega] at hsnoc
  generalize t.keys[i]=k at *
  obtain⟨v,q1,q2,q3,q4⟩:=ht'.look k
  obtain⟨C,w1,x4,w2⟩:=local_put A' (cs:=[.slice none 0 0 0 0,.int .i64 0]) (n:=2) rfl (l:=[v,.int .i64 (t.seg k).syn]) rfl (flat_seg q3 _ _)
  have l1:=ht'.cl.ld 1 (v:=.map (some m)) rfl
  have v0:=w2.ld 0 (v:=v) rfl
  have v1:=w2.ld 1 (v:=.int .i64 (t.seg k).syn) rfl
  have hfs:=hok.few_seg k
  have hlv:=(show Bs C v (t.seg k).b from Sl.ext x4 q3).lenV
  simp[e0,e1,e20,e21,e22,g1,g2,AV.addr,l1,q2,Made.value,w1,v0,v1,hls,qoq,-qjq]
  refine contC_join (fun E A''=>C=A''∧Env.at E 0=.ptr (some (p,0,0))∧Env.at E 1=s∧Env.at E 5=.ptr (some (A.next+1,0,0))∧Env.at E 7=.int .i64 k∧Env.at E 8=.ptr (some (A'.next,0,0))∧Env.at E 20=r∧Env.at E 21=.int .i64 t.keys.length∧Env.at E 22=.int .i64 i∧Env.at E 9=.int .i64 ((lasts (t.seg k) keeps[i]?).syn:Nat)) (fun hc2=>?_) (fun hc2=>?_) ?_
  ·simp at hc2
   have hki:keeps[i]?=some keeps[i]:=List.getElem?_eq_getElem hc2
   have hxk:=hkp keeps[i] (List.getElem_mem hc2)
   obtain⟨q5,g5,g6⟩:=(Sl.ext x4 hs').at_one (j:=i) (v:=.int .i64 keeps[i]) (by rw[List.getElem?_map,hki];rfl) .i64
   rw[hki]
   generalize keeps[i]=x at *
   refine Wp.envI (fun E=>Env.at E 0=.ptr (some (p,0,0))∧Env.at E 1=s∧Env.at E 5=.ptr (some (A.next+1,0,0))∧Env.at E 6=.int .i64 i∧Env.at E 7=.int .i64 k∧Env.at E 8=.ptr (some (A'.next,0,0))∧Env.at E 20=r∧Env.at E 21=.int .i64 t.keys.length∧Env.at E 22=.int .i64 i∧Env.at E 9=.int .i64 (t.seg k).syn) (by simp[e0,e1,e5,e20,e21,e22]) ?_
   rintro E2 ⟨f0,f1,f5,f6,f7,f8,f20,f21,f22,f9⟩
   refine Wp.draws ?_
   simp[f1,f6,f8,f9,g5,g6,AV.addr,InAll,AV.beq]
   have em1:=fun (E:Env) (a b:Operand) (h1:ev E a=.int .i64 x) (h2:ev E b=.int .i64 0)=>pure_mm2 (b:=true) h1 h2
   rw[em1 _ _ _ (by simp) (by simp)]
   obtain⟨z,hz,ez⟩:=sub_nat (a:=(t.seg k).b.length) (b:=(t.seg k).syn) hfs.2 (by omega)
   have em2:=fun (E:Env) (a b:Operand) (h1:ev E a=.int .i64 (max x 0)) (h2:ev E b=.int .i64 z)=>pure_mm2 (b:=false) h1 h2
   try simp[-qsq] at ez
   simp[f8,v0,v1,hlv,ez,q3.beq,AV.addr,-qsq]
   rw[em2 _ _ _ (by simp) (by simp)]
   obtain⟨w,hw⟩:∃ w:Nat,min (max x 0) (z:Int)=w:=⟨(min (max x 0) (z:Int)).toNat,by omega⟩
   obtain⟨y,hy,ey⟩:=add_nat (a:=(t.seg k).syn) (b:=w) (by omega) (by omega)
   try simp[-qbq] at ey
   simp[hw,ey,f0,f1,f5,f7,f8,f20,f21,f22,g5,g6,v0,v1,-qbq]
   rw[hy,lasts_syn]
   refine⟨by simp[InAll,v0,v1,AV.beq,q3.beq],?_⟩
   omega
  ·simp at hc2
   have hki:keeps[i]?=none:=List.getElem?_eq_none hc2
   simp[e0,e1,e5,e20,e21,e22,hki,lasts]
  ·rintro E2 _ ⟨rfl,f0,f1,f5,f7,f8,f20,f21,f22,f9⟩
   obtain⟨n,n1,n2,n3⟩:=lasts_spec (t.seg k) hfs.2 keeps[i]?
   rw[n3] at f9
   have f9:Env.at E2 9=.int .i64 n:=f9
   have hone:crashOne t k keeps[i]?=if 0<n then [(k,⟨(t.seg k).b.take n,n⟩)] else []:=by unfold crashOne;rw[n3]
   have ea:=add_one (i:=i) (by omega)
   have mdC:Mod (fun f=>f=A.next) B C:=md.trans (Mod.of_ext x4)
   have eg1:binOf .gtr (.int .i64 n) (.int .i64 0)=some (.bool (decide (0<n))):=by rw[qfq];simp
   have eg2:binOf .gtr (.int .i64 (t.seg k).syn) (.int .i64 0)=some (.bool (decide (0<(t.seg k).syn))):=by rw[qfq];simp
   by_cases hn0:0<n
   ·rw[if_pos hn0] at hone
    rw[hone] at hsnoc
    have hTC:=hT.ext x4
    have lT:=hTC.cl.ld 1 (v:=.map (some A.next)) rfl
    have q3C:Bs C v (t.seg k).b:=Sl.ext x4 q3
    obtain⟨s1,c1,c2,c3⟩:=Sl.cutTo q3C (hi:=n) (by rw[Bs.len q3C];exact n2) (j:=.i64)
    rw[Nat.mul_one,bytesV_take] at c3
    simp[f9,eg1,hn0,-qfq]
    refine Wp.envI (fun E=>Env.at E 0=.ptr (some (p,0,0))∧Env.at E 1=s∧Env.at E 5=.ptr (some (A.next+1,0,0))∧Env.at E 7=.int .i64 k∧Env.at E 8=.ptr (some (A'.next,0,0))∧Env.at E 9=.int .i64 n∧Env.at E 20=r∧Env.at E 21=.int .i64 t.keys.length∧Env.at E 22=.int .i64 i) (by simp[f0,f1,f5,f7,f8,f9,f20,f21,f22]) ?_
    rintro E3 ⟨k0,k1,k5,k7,k8,k9,k20,k21,k22⟩
    refine Wp.draws ?_
    simp[k5,k7,k8,k9,AV.addr,lT,v0,c1,qiq,allKnown,c3.allKnown]
    have hnC:A.next+2≤C.next:=by
     have:=hnew.cl.lt
     have:=x3.next
     have:=mdC.next
     omega
    refine (clone_spec c3 (by rw[List.length_take];omega)).mono fun b C2 ⟨x5,hb⟩=>?_
    have hbl:((t.seg k).b.take n).length=n:=by rw[List.length_take];omega
    have hTC2:=hTC.ext x5
    have lT2:=hTC2.cl.ld 1 (v:=.map (some A.next)) rfl
    have hro:RoS (kTape b' K A.next) b:=fun f hf=>by
     have:=hb.into hf
     unfold kTape
     rw[if_neg (by omega)]
     exact hA.fresh f (by omega)
    have hput:putA k ⟨(t.seg k).b.take n,n⟩ (crashL t (t.keys.take i) keeps)=crashL t (t.keys.take (i+1)) keeps:=by
     rw[hsnoc,putA_new]
     intro hm
     obtain⟨y,hy,e⟩:=List.mem_map.1 hm
     exact hnk (by rw[←e];exact (crash_mem hy).1)
    have hokc:=crash_ok ht (i+1) keeps
    rw[←hput] at hokc
    obtain⟨C3,e1,m2,h3⟩:=hTC2.put (k:=k) (d:=⟨(t.seg k).b.take n,n⟩) (s:=b) hb.sl hro hokc
    have hb2:Bs C2 b ((t.seg k).b.take n):=hb.sl
    simp[fillA,splice,hb2.notBot,hb2.cells,aggV,k9]
    rw[e1 _ _ _ _ (by simp) (by simp) (by simp)]
    simp[-qbq] at ea
    simp[InAll,lT,lT2,v0,AV.beq,q3.beq,k22,ea,-qbq]
    refine⟨d - 1,by omega,(mdC.trans (Mod.of_ext x5)).trans m2,k0,k1,k5,k20,k21,i+1,by omega,by omega,?_⟩
    rw[←hput]
    exact h3
   ·have hs0:¬0<(t.seg k).syn:=by omega
    rw[if_neg hn0] at hone
    rw[hone,List.append_nil] at hsnoc
    simp[-qbq] at ea
    simp[f9,f8,f22,AV.addr,v1,eg1,eg2,hn0,hs0,ea,-qfq,-qbq]
    exact⟨d - 1,by omega,mdC,f0,f1,f5,f20,f21,i+1,by omega,by omega,by rw[hsnoc];exact hT.ext x4⟩
 ·simp at hc
  have hil:i=t.keys.length:=by omega
  rw[hil,List.take_length] at hT
  simp[e5]
  refine⟨?_,?_,hT⟩
  ·exact⟨Nat.le_trans (x12.trans x3).next md.next,fun f hf=>(md.get f (Nat.lt_of_lt_of_le hf (x12.trans x3).next) (by omega)).trans ((x12.trans x3).get f hf)⟩
  ·have:=hnew.cl.lt
   have:=x3.next
   have:=md.next
   omega
end
section
variable {D:Disp} {G0:Env} {X:Calls'} {A0:St}
theorem Slcut_max {A:St} {s:AV} {cs:List AV} (h:Sl A 1 s cs) {n:Nat} (h0:0<n) (hn:n≤s.slen):∃ s',cutSliceOf 1 s none (some (.int .i64 n)) (some (.int .i64 n))=some s'∧Sl A 1 s' (cs.take n)∧∀ f,s'.into f=true→s.into f=true:=by
 cases h with
 | nil po cap q=>simp[AV.slen] at hn;omega
 | @mem f v o po len cap q cs hf hc hq=>
  simp only[AV.slen] at hn
  have hsub:=cells_sub hc (i:=0) (k:=n) (by omega)
  rw[List.drop_zero,Nat.add_zero] at hsub
  have hn0:¬n=0:=by omega
  refine⟨.slice (some (f,v,o)) 0 n n 0,?_,.mem hf (by rw[Nat.mul_one];exact hsub) (.inl ⟨rfl,Nat.le_refl _⟩),fun g hg=>hg⟩
  rcases hq with ⟨rfl,hq⟩|⟨rfl,hq⟩
  ·have h1:bound? cap (AV.int .i64 (n:Int))=some n:=by simp[bound?];omega
   have h2:bound? n (AV.int .i64 (n:Int))=some n:=by simp[bound?]
   simp[cutSliceOf,boundHi,boundLo,boundMx,h1,h2,hn0]
  ·have:¬len=0:=by omega
   have h1:bound? len (AV.int .i64 (n:Int))=some n:=by simp[bound?];omega
   have h2:bound? n (AV.int .i64 (n:Int))=some n:=by simp[bound?]
   simp[cutSliceOf,boundHi,boundLo,boundMx,h1,h2,hn0,this]
theorem trim_spec (HX:RowsX X A0) {b:Nat} {K:Nat→Nat} {A:St} (hA:Wld K A0 A) {p m:Nat} {t:TpD} (ht:TpC b K A p m t) {k:Int} {n:Nat} (hn0:0<n) (hn:n≤(t.seg k).b.length) :
  Ev D G0 fnsL X 269 [.ptr (some (p,0,0)),.int .i64 k,.int .i64 n] A fun r B=>Mod (fun f=>f=p∨f=m) A B∧TpC b K B p m (t.trim k n).2∧r=.int .i64 (t.trim k n).1:=by
 refine Ev.fnK (fn:=a269) rfl ⟨by simp[a269],by decide⟩ ?_
 unfold a269
 simp[qaq,allKnown]
 refine (there_spec ht).mono fun r B ⟨x1,h1⟩=>?_
 have hA1:=hA.ext x1
 have ht1:=ht.ext x1
 rcases h1 with ⟨h0,rfl⟩|⟨h0,j,ty,u,hk,rfl,h2⟩
 ·obtain⟨z1,z2,z3⟩:=there_zero h0
  have e:t.trim k n=t.change k ⟨(t.seg k).b.take n,min (t.seg k).syn n⟩:=by
   unfold TpD.trim
   rw[if_neg (by simp[h0]),if_neg (by omega)]
   simp
  rw[e]
  obtain⟨v,q1,q2,q3,q4⟩:=ht1.look k
  have hfs:=ht1.ok.few_seg k
  obtain⟨C,w1,x2,w2⟩:=local_put B (cs:=[.slice none 0 0 0 0,.int .i64 0]) (n:=2) rfl (l:=[v,.int .i64 (t.seg k).syn]) rfl (flat_seg q3 _ _)
  have l1:=ht1.cl.ld 1 (v:=.map (some m)) rfl
  have v0:=w2.ld 0 (v:=v) rfl
  have v1:=w2.ld 1 (v:=.int .i64 (t.seg k).syn) rfl
  have hl:=q3.lenV
  have eg1:binOf .lss (.int .i64 (n:Int)) (.int .i64 0)=some (.bool false):=by rw[qjq];simp
  have eg2:binOf .gtr (.int .i64 (n:Int)) (.int .i64 ((t.seg k).b.length:Nat))=some (.bool false):=by rw[qfq];simp;omega
  simp[eqV,eqOf,AV.addr,l1,q2,fieldV,partOf,hl,eg1,eg2,Made.value,w1,-qjq,-qfq]
  refine Wp.envI (fun E=>Env.at E 0=.ptr (some (p,0,0))∧Env.at E 1=.int .i64 k∧Env.at E 2=.int .i64 n∧Env.at E 8=.ptr (some (B.next,0,0))) (by simp) ?_
  rintro E ⟨e0,e1,e2,e8⟩
  have q3C:Bs C v (t.seg k).b:=Sl.ext x2 q3
  obtain⟨s',c1,c2,c3⟩:=Slcut_max q3C (n:=n) hn0 (by rw[Bs.len q3C];exact hn)
  rw[bytesV_take] at c2
  have hro:RoS K s':=fun f hf=>q4 f (c3 f hf)
  have em2:=fun (E:Env) (a b:Operand) (h1:ev E a=.int .i64 (t.seg k).syn) (h2:ev E b=.int .i64 n)=>pure_mm2 (b:=false) h1 h2
  refine Wp.draws ?_
  simp[e0,e1,e2,e8,AV.addr,v0,v1,c1]
  rw[em2 _ _ _ (by simp) (by simp)]
  obtain⟨w,hw⟩:∃ w:Nat,min ((t.seg k).syn:Int) (n:Int)=w:=⟨min (t.seg k).syn n,by omega⟩
  have hwn:min (t.seg k).syn n=w:=by omega
  rw[hw,hwn]
  simp[fillA,splice,c2.notBot,c2.cells,aggV,qiq,allKnown]
  have hl2:((t.seg k).b.take n).length=n:=by rw[List.length_take];omega
  have hA2:=hA1.ext x2
  have ht2:=ht1.ext x2
  refine (change_spec HX hA2 ht2 (d:=⟨(t.seg k).b.take n,w⟩) c2 hro (ok_put ht.ok z1 (by simp only[hl2];omega) (by have:=ht.ok.used;simp only[hl2];omega) (.inl (z3 rfl)))).mono fun r C2 ⟨e1,e2,e3⟩=>?_
  subst e3
  simp
  exact⟨by simp[InAll,v0,v1,AV.beq,q3.beq],((Mod.of_ext x1).trans (Mod.of_ext x2)).trans e1,e2⟩
 ·have e:t.trim k n=(t.there k false,t):=by unfold TpD.trim;rw[if_pos h0]
  rw[e]
  simp[eqV,eqOf,qaq,allKnown]
  refine (qvq HX hA1.glob (h2.ev hk)).mono fun r C ⟨e1,e2⟩=>?_
  subst e1 e2
  simp
  exact⟨Mod.of_ext x1,ht1⟩
end
structure JoOk (j:JoD):Prop where
 cur:-1≤j.cur∧j.cur≤1048576
 seg:0≤j.seg∧j.seg≤1048576
 state:j.state.length<2^40
 recs:∀ r∈j.recs,r.length<2^40
structure JoC (b:Nat) (K:Nat→Nat) (A:St) (j p m:Nat) (jd:JoD):Prop where
 tp:TpC b K A p m jd.t
 ex:∃ st rs ps,Cl A j [.ptr (some (p,0,0)),.int .i64 jd.seg,.int .i64 jd.cur,st,rs]∧Bs A st jd.state∧RoS K st∧AM.Own 0 A 1 rs ps∧PartsB A ps jd.recs∧(∀ v∈ps,RoS K v)∧(∀ f,rs.into f=true→K f=b+2∧f≠j)
 kj:K j=b+2
 ok:JoOk jd
def JW (b:Nat) (K:Nat→Nat):Nat→Prop:=fun f=>K f=b+1∨K f=b+2
theorem PartsB.mod {W:Nat→Prop} {A B:St} (x:Mod W A B):∀ {vs:List AV} {ls:List (List UInt8)},PartsB A vs ls→(∀ v∈vs,∀ f,v.into f=true→¬W f)→PartsB B vs ls
 | [],[],_,_=>trivial
 | v::_,_::_,e,h=>⟨Sl.mod e.1 x (h v List.mem_cons_self),PartsB.mod x e.2 fun w hw=>h w (List.mem_cons_of_mem _ hw)⟩
 | [],_::_,h,_=>h.elim
 | _::_,[],h,_=>h.elim
theorem Own_mod {lo:Nat} {W:Nat→Prop} {A B:St} {sz:Nat} {s:AV} {cs:List AV} (h:AM.Own lo A sz s cs) (x:Mod W A B) (hw:∀ f,s.into f=true→¬W f):AM.Own lo B sz s cs:=
 h.of_get x.next fun p po len cap q hs=>x.get _ (Sl.into_lt h.sl (by rw[hs];simp[AV.into])) (hw _ (by rw[hs];simp[AV.into]))
theorem PartsB_up {K K':Nat→Nat} {A:St}:∀ {vs:List AV} {ls:List (List UInt8)},PartsB A vs ls→KUp K K' A→(∀ v∈vs,RoS K v)→∀ v∈vs,RoS K' v
 | [],[],_,_,_,v,hv=>by cases hv
 | w::_,_::_,e,u,h,v,hv=>by
  rcases List.mem_cons.1 hv with rfl|hv
  ·exact (h _ List.mem_cons_self).up e.1 u
  ·exact PartsB_up e.2 u (fun w hw=>h w (List.mem_cons_of_mem _ hw)) v hv
 | [],_::_,h,_,_,_,_=>h.elim
 | _::_,[],h,_,_,_,_=>h.elim
section
variable {b:Nat} {K:Nat→Nat} {A B:St} {j p m:Nat} {jd:JoD}
theorem JoC.mod {W:Nat→Prop} (h:JoC b K A j p m jd) (x:Mod W A B) (hw:∀ f,W f→K f≠0∧K f≠b+1∧K f≠b+2):JoC b K B j p m jd:=by
 obtain⟨st,rs,ps,h1,h2,h3,h4,h5,h6,h7⟩:=h.ex
 exact⟨h.tp.mod x fun f hW=>⟨(hw f hW).1,(hw f hW).2.1⟩,⟨st,rs,ps,h1.mod x (fun hW=>(hw _ hW).2.2 h.kj),Sl.mod h2 x (fun f hf hW=>(hw f hW).1 (h3 f hf)),h3,Own_mod h4 x (fun f hf hW=>(hw f hW).2.2 (h7 f hf).1),PartsB.mod x h5 (fun v hv f hf hW=>(hw f hW).1 (h6 v hv f hf)),h6,h7⟩,h.kj,h.ok⟩
theorem JoC.ext (h:JoC b K A j p m jd) (x:A.Ext B):JoC b K B j p m jd:=h.mod (W:=fun _=>False) (Mod.of_ext x) fun _ hf=>hf.elim
theorem JoC.up {K':Nat→Nat} (h:JoC b K A j p m jd) (u:KUp K K' A):JoC b K' A j p m jd:=by
 obtain⟨st,rs,ps,h1,h2,h3,h4,h5,h6,h7⟩:=h.ex
 exact⟨h.tp.up u,⟨st,rs,ps,h1,h2,h3.up h2 u,h4,h5,PartsB_up h5 u h6,fun f hf=>⟨by rw[u f (Sl.into_lt h4.sl hf)];exact (h7 f hf).1,(h7 f hf).2⟩⟩,by rw[u _ h1.lt];exact h.kj,h.ok⟩
theorem JoC.tape (h:JoC b K A j p m jd) {t:TpD} (x:Mod (fun f=>f=p∨f=m) A B) (ht:TpC b K B p m t):JoC b K B j p m { jd with t:=t }:=by
 obtain⟨st,rs,ps,h1,h2,h3,h4,h5,h6,h7⟩:=h.ex
 have hw:∀ f,f=p∨f=m→K f=b+1:=by
  rintro f (rfl|rfl)
  ·exact h.tp.kp
  ·exact h.tp.km
 exact⟨ht,⟨st,rs,ps,h1.mod x (fun hW=>by have:=hw _ hW;have:=h.kj;omega),Sl.mod h2 x (fun f hf hW=>by have:=hw _ hW;have:=h3 f hf;omega),h3,Own_mod h4 x (fun f hf hW=>by have:=hw _ hW;have:=(h7 f hf).1;omega),PartsB.mod x h5 (fun v hv f hf hW=>by have:=hw _ hW;have:=h6 v hv f hf;omega),h6,h7⟩,h.kj,⟨h.ok.cur,h.ok.seg,h.ok.state,h.ok.recs⟩⟩
theorem JoC.tw (h:JoC b K A j p m jd):∀ f,f=p∨f=m→JW b K f:=by
 rintro f (rfl|rfl)
 ·exact .inl h.tp.kp
 ·exact .inl h.tp.km
theorem JW.ne0 {f:Nat} (h:JW b K f):K f≠0:=by
 rcases h with h|h<;>omega
end
section
variable {D:Disp} {G0:Env} {X:Calls'} {A0:St}
theorem new_nil {A:St}:Ev D G0 fnsL X 90 [.int .i64 0] A fun r B=>A=B∧r=.nilIface:=by
 refine Ev.fnK (fn:=a90) rfl ⟨by simp[a90],by decide⟩ ?_
 unfold a90
 simp
theorem on_spec {A:St} {s e:Int}:Ev D G0 fnsL X 158 [.int .i64 s,.int .i64 e] A fun r B=>A.Ext B∧EV B r e:=by
 refine Ev.fnK (fn:=a158) rfl ⟨by simp[a158],by decide⟩ ?_
 unfold a158
 by_cases he:e=0
 ·subst he
  simp[qaq,allKnown]
  refine new_nil.mono fun r B ⟨h1,h2⟩=>?_
  subst h1 h2
  simp[qaq,allKnown]
  refine at_nil.mono fun r B ⟨h1,h2⟩=>?_
  subst h1 h2
  simp
  exact⟨St.Ext.refl _,EV.nil _⟩
 ·simp[qaq,allKnown]
  refine (new_spec he).mono fun r B ⟨x1,h1⟩=>?_
  obtain⟨t,u,rfl⟩:=h1.isIface
  simp[qaq,allKnown]
  refine (at_spec h1).mono fun r C ⟨x2,h2⟩=>?_
  obtain⟨t,u,rfl⟩:=h2.isIface
  simp
  exact⟨x1.trans x2,h2.ev (by decide)⟩
theorem on_keeps {A:St} {s e:Int}:Ev D G0 fnsL X 158 [.int .i64 s,.int .i64 e] A fun r B=>A.Ext B∧EV B r e∧∀ C:St,B.next≤C.next→(∀ f,A.next≤f→f<B.next→C.get f=B.get f)→EV C r e:=by
 refine Ev.fnK (fn:=a158) rfl ⟨by simp[a158],by decide⟩ ?_
 unfold a158
 by_cases he:e=0
 ·subst he
  simp[qaq,allKnown]
  refine new_nil.mono fun r B ⟨h1,h2⟩=>?_
  subst h1 h2
  simp[qaq,allKnown]
  refine at_nil.mono fun r B ⟨h1,h2⟩=>?_
  subst h1 h2
  simp
  exact⟨St.Ext.refl _,EV.nil _,fun C _ _=>EV.nil _⟩
 ·simp[qaq,allKnown]
  refine (new_spec he).mono fun r B ⟨x1,h1⟩=>?_
  obtain⟨t,u,rfl⟩:=h1.isIface
  simp[qaq,allKnown]
  refine (at_spec h1).mono fun r C ⟨x2,h2⟩=>?_
  obtain⟨t,u,rfl⟩:=h2.isIface
  simp
  have h3:=h2.mono (lo':=A.next) (by have:=x1.next;omega)
  exact⟨x1.trans x2,h3.ev (by decide),fun Z hn hg=>(h3.keep hn hg).ev (by decide)⟩
theorem jsync_spec (HX:RowsX X A0) {b:Nat} {K:Nat→Nat} {A:St} (hA:Wld K A0 A) {j p m:Nat} {jd:JoD} (h:JoC b K A j p m jd) :
  Ev D G0 fnsL X 155 [.ptr (some (j,0,0))] A fun r B=>Mod (JW b K) A B∧JoC b K B j p m jd.sync.2∧r=.int .i64 jd.sync.1:=by
 refine Ev.fnK (fn:=a155) rfl ⟨by simp[a155],by decide⟩ ?_
 unfold a155
 obtain⟨st,rs,ps,h1,_⟩:=h.ex
 have l0:=h1.ld 0 (v:=.ptr (some (p,0,0))) rfl
 have l2:=h1.ld 2 (v:=.int .i64 jd.cur) rfl
 unfold JoD.sync
 by_cases hc:jd.cur<0
 ·rw[if_pos hc]
  simp[eqV,eqOf,AV.addr,l2,hc]
  exact⟨Mod.refl A,h⟩
 ·rw[if_neg hc]
  simp[eqV,eqOf,AV.addr,l2,hc]
  refine Wp.draws ?_
  simp[AV.addr,l0,l2,qiq,allKnown,InAll,AV.beq]
  refine (sync_spec HX hA h.tp).mono fun r B ⟨e1,e2,e3⟩=>?_
  subst e3
  simp[l0,l2]
  exact⟨e1.mono fun f _ hf=>h.tw f hf,h.tape e1 e2⟩
end
section
variable {D:Disp} {G0:Env} {X:Calls'} {A0:St}
theorem keys_few {t:TpD} (h:TpOk t):t.keys.length≤64:=by unfold TpD.keys;rw[(qrq leI _).length_eq];simpa[keysA] using h.few
theorem clear_spec (HX:RowsX X A0) {b:Nat} {K:Nat→Nat} {A:St} (hA:Wld K A0 A) {j p m:Nat} {jd:JoD} (h:JoC b K A j p m jd) :
  Ev D G0 fnsL X 163 [.ptr (some (j,0,0))] A fun r B=>Mod (JW b K) A B∧JoC b K B j p m { jd with t:=(clearL jd.cur jd.t.keys jd.t).2 }∧EV B r (clearL jd.cur jd.t.keys jd.t).1:=by
 refine Ev.fnK (fn:=a163) rfl ⟨by simp[a163],by decide⟩ ?_
 unfold a163
 obtain⟨st,rs,ps,h1,_⟩:=h.ex
 have l0:=h1.ld 0 (v:=.ptr (some (p,0,0))) rfl
 simp[AV.addr,l0,qaq,allKnown]
 refine (segs_spec HX hA.glob h.tp).mono fun r B ⟨x1,hs,hfr⟩=>?_
 have hlen:=hs.lenV1
 simp at hlen
 simp[hlen]
 have hkf:=keys_few h.tp.ok
 generalize hks:jd.t.keys=ks at *
 generalize hC:clearL jd.cur ks jd.t=CC at *
 refine Wp.loopK (fun d E A'=>Mod (JW b K) A A'∧Env.at E 0=.ptr (some (j,0,0))∧Env.at E 10=r∧Env.at E 11=.int .i64 ks.length∧Sl A' 1 r (ks.map (AV.int .i64))∧∃ (i:Nat) (t':TpD),Env.at E 12=.int .i64 i∧i+d=ks.length∧JoC b K A' j p m { jd with t:=t' }∧clearL jd.cur (ks.drop i) t'=CC) ks.length ?_ ?_
 ·exact⟨Mod.of_ext x1,by simp,by simp,by simp,hs,0,jd.t,by simp,by simp,h.ext x1,by simpa using hC⟩
 rintro d E A' ⟨md,e0,e10,e11,hs',i,t',e12,hi,hJ,hcl⟩
 simp[e11,e12,qoq,-qjq]
 refine qeq (fun hc=>?_) (fun hc=>?_)
 ·simp at hc
  have hk:ks[i]?=some ks[i]:=List.getElem?_eq_getElem hc
  have hdr:ks.drop i=ks[i]::ks.drop (i+1):=List.drop_eq_getElem_cons hc
  rw[hdr] at hcl
  simp only[clearL] at hcl
  obtain⟨q,g1,g2⟩:=hs'.at_one (j:=i) (v:=.int .i64 ks[i]) (by rw[List.getElem?_map,hk];rfl) .i64
  generalize ks[i]=k at *
  have hA':=hA.mod md fun f hf=>hf.ne0
  obtain⟨st',rs',ps',h1',_⟩:=hJ.ex
  have l0':=h1'.ld 0 (v:=.ptr (some (p,0,0))) rfl
  have l2':=h1'.ld 2 (v:=.int .i64 jd.cur) rfl
  have ea:=add_one (i:=i) (by omega)
  simp[-qbq] at ea
  by_cases hlt:k<jd.cur
  ·rw[if_pos hlt] at hcl
   simp[e0,e10,e11,e12,g1,g2,AV.addr,l0',l2',hlt,qaq,allKnown]
   refine (drop_spec HX hA' hJ.tp).mono fun r1 C ⟨m1,h2,h3⟩=>?_
   subst h3
   have hJ2:=hJ.tape m1 h2
   have mdC:Mod (JW b K) A C:=md.trans (m1.mono fun f _ hf=>hJ.tw f hf)
   simp[qaq,allKnown]
   refine on_spec.mono fun r2 C2 ⟨x2,h4⟩=>?_
   have hJ3:=hJ2.ext x2
   have mdC2:=mdC.trans (Mod.of_ext x2)
   have hsC:Sl C2 1 r (ks.map (AV.int .i64)):=Sl.ext x2 (hs'.mod m1 fun f hf hW=>by
    have h1:=hfr f hf
    have h2:=h.tp.cl.lt
    obtain⟨l,c,h3,_⟩:=h.tp.ex
    have h4:=h3.lt
    omega)
   rcases h4 with ⟨h0,rfl⟩|⟨h0,n,ty,u,hk,rfl,h5⟩
   ·rw[if_neg (by simp[h0])] at hcl
    simp[eqV,eqOf,e12,ea,-qbq]
    exact⟨d - 1,by omega,mdC2,e0,e10,e11,hsC,i+1,by omega,by omega,_,hJ3,hcl⟩
   ·rw[if_pos h0] at hcl
    simp[eqV,eqOf]
    rw[←hcl]
    exact⟨mdC2,hJ3,h5.ev hk⟩
  ·rw[if_neg hlt] at hcl
   simp[e0,e10,e11,e12,g1,g2,AV.addr,l0',l2',hlt,ea,-qbq]
   exact⟨d - 1,by omega,md,hs',i+1,by omega,by omega,t',hJ,hcl⟩
 ·simp at hc
  have hil:i=ks.length:=by omega
  rw[hil,List.drop_length] at hcl
  simp only[clearL] at hcl
  rw[←hcl]
  simp
  exact⟨md,hJ,EV.nil _⟩
theorem state_spec {b:Nat} {K:Nat→Nat} {A:St} {j p m:Nat} {jd:JoD} (h:JoC b K A j p m jd):Ev D G0 fnsL X 79 [.ptr (some (j,0,0))] A fun r B=>A.Ext B∧OwnB A.next B r jd.state:=by
 refine Ev.fnK (fn:=a79) rfl ⟨by simp[a79],by decide⟩ ?_
 unfold a79
 obtain⟨st,rs,ps,h1,h2,_⟩:=h.ex
 have l3:=h1.ld 3 (v:=st) rfl
 simp[eqV,eqOf,AV.addr,l3,qaq,allKnown,h2.allKnown]
 refine (clone_spec h2 h.ok.state).mono fun r B ⟨x,ho⟩=>?_
 simp[ho.sl.known]
 exact⟨x,ho⟩
theorem jlen_spec {b:Nat} {K:Nat→Nat} {A:St} {j p m:Nat} {jd:JoD} (h:JoC b K A j p m jd):Ev D G0 fnsL X 83 [.ptr (some (j,0,0))] A fun r B=>A=B∧r=.int .i64 jd.recs.length:=by
 refine Ev.fnK (fn:=a83) rfl ⟨by simp[a83],by decide⟩ ?_
 unfold a83
 obtain⟨st,rs,ps,h1,h2,h3,h4,h5,_⟩:=h.ex
 have l4:=h1.ld 4 (v:=rs) rfl
 have hl:=h4.sl.lenV1
 rw[h5.length] at hl
 simp[eqV,eqOf,AV.addr,l4,hl]
end
structure PL (lo:Nat) (A:St) (out:AV) (ps:List AV) (ls:List (List UInt8)):Prop where
 own:AM.Own lo A 1 out ps
 parts:PartsB A ps ls
 apart:Apart out ps
theorem PL.snoc {lo:Nat} {A:St} {out v:AV} {ps:List AV} {ls:List (List UInt8)} {l:List UInt8} (h:PL lo A out ps ls) (hv:Bs A v l) (hlo:lo≤A.next) (hva:∀ f,out.into f=true→v.into f=false) (hl:ps.length<2^40) :
  ∃ s' B,appendV (A.make [v] 1).2 false 1 24 out (.slice (some (A.next,0,0)) 0 1 1 0)=some (s',B)∧PL lo B s' (ps++[v]) (ls++[l])∧But (A.make [v] 1).2 B out∧∀ f,s'.into f=true→out.into f=true∨A.next≤f:=by
 have ho1:AM.Own A.next (A.make [v] 1).2 1 (.slice (some (A.next,0,0)) 0 1 1 0) [v]:=own_built A rfl
 have x3:=qdq A [v] 1
 have hnx:(A.make [v] 1).2.next=A.next+1:=rfl
 generalize (A.make [v] 1).2=A1 at *
 have hol:out.slen=ps.length:=by rw[h.own.sl.length,Nat.mul_one]
 have hout1:=h.own.ext x3
 obtain⟨s4,B3,k1,k2,k3,k4,k5⟩:=qpq (bytes:=24) hout1 ho1.sl (by omega) (by decide) (by simp[Sl.flat hv]) (by rw[hol,qnq];omega) (by rw[hol,qnq];omega)
 have hps1:=PartsB.snoc (show Bs A1 v l from Sl.ext x3 hv) (h.parts.ext x3)
 have hap1:Apart out (ps++[v]):=fun f hf w hw=>by
  rcases List.mem_append.1 hw with hw|hw
  ·exact h.apart f hf w hw
  ·have hw:w=v:=by simpa using hw
   subst hw
   exact hva f hf
 refine⟨s4,B3,k1,⟨k3,PartsB.but k4 hap1 hps1,fun f hf w hw=>?_⟩,k4,fun f hf=>(k5 f hf).imp id fun h=>by omega⟩
 rcases k5 f hf with hf'|hf'
 ·exact hap1 f hf' w hw
 ·cases hi:w.into f with
  | false=>rfl
  | true=>
   rcases List.mem_append.1 hw with hw|hw
   ·have:=PartsB.mem_into h.parts w hw f hi;omega
   ·have hw:w=v:=by simpa using hw
    subst hw
    have:=Sl.into_lt hv hi
    omega
def kInto (K:Nat→Nat) (n:Nat) (s:AV) (c:Nat):Nat→Nat:=fun f=>if n≤f∧s.into f=true then c else K f
theorem kInto_up (K:Nat→Nat) (A:St) (s:AV) (c:Nat):KUp K (kInto K A.next s c) A:=fun f hf=>by unfold kInto;rw[if_neg (by omega)]
theorem kInto_fresh {K:Nat→Nat} {A B:St} {s:AV} {c sz:Nat} {cs:List AV} (h:KFresh K A) (hs:Sl B sz s cs) (hn:A.next≤B.next):KFresh (kInto K A.next s c) B:=fun f hf=>by
 unfold kInto
 rw[if_neg (fun h=>by have:=Sl.into_lt hs h.2;omega)]
 exact h f (by omega)
theorem JoC.push {b:Nat} {K:Nat→Nat} {A:St} {j p m:Nat} {jd:JoD} (h:JoC b K A j p m jd) (hK:KFresh K A) {v:AV} {l:List UInt8} (hv:Bs A v l) (hro:RoS K v) (hl:l.length<2^40) (hn:jd.recs.length<2^40) :
  ∃ rs s' B C K',loadV A 1 false (.ptr (some (j,0,4)))=some rs∧rs.isBot=false∧AV.beq rs rs=true∧(∀ A':St,A'.get j=A.get j→loadV A' 1 false (.ptr (some (j,0,4)))=some rs)∧appendV (A.make [v] 1).2 false 1 24 rs (.slice (some (A.next,0,0)) 0 1 1 0)=some (s',B)∧s'.isBot=false∧B.get j=A.get j∧storeV B 1 (.ptr (some (j,0,4))) s'=some (.bot,C)∧KUp K K' A∧KFresh K' C∧JoC b K' C j p m { jd with recs:=jd.recs++[l] }∧Mod (JW b K) A C:=by
 obtain⟨st,rs,ps,h1,h2,h3,h4,h5,h6,h7⟩:=h.ex
 have hap:Apart rs ps:=fun f hf v hv=>by
  cases hi:v.into f with
  | false=>rfl
  | true=>have:=h6 v hv f hi;have:=(h7 f hf).1;omega
 have hpl:PL 0 A rs ps jd.recs:=⟨h4,h5,hap⟩
 have hpn:=h5.length
 obtain⟨s',B,k1,k2,k3,k4⟩:=hpl.snoc hv (Nat.zero_le _) (fun f hf=>by
  cases hi:v.into f with
  | false=>rfl
  | true=>have:=hro f hi;have:=(h7 f hf).1;omega) (by omega)
 have x1:=qdq A [v] 1
 have hjr:rs.into j=false:=by
  cases hi:rs.into j with
  | false=>rfl
  | true=>exact absurd rfl (h7 j hi).2
 have hjlt:=h1.lt
 have hgj:B.get j=A.get j:=(k3.get j (Nat.lt_of_lt_of_le hjlt x1.next) hjr).trans (x1.get j hjlt)
 have mB:Mod (fun f=>rs.into f=true) A B:=(Mod.of_ext x1).trans ⟨k3.next,fun f hf hw=>k3.get f hf (by simpa using hw)⟩
 have h1B:Cl B j [.ptr (some (p,0,0)),.int .i64 jd.seg,.int .i64 jd.cur,st,rs]:=h1.mod mB (by simp[hjr])
 obtain⟨st1,st2⟩:=h1B.st 4 (by simp) (v:=s') (Sl.flat k2.own.sl) (Sl.cells k2.own.sl) (Sl.notBot k2.own.sl)
 simp at st1 st2
 generalize hCd:B.put j _=C at *
 have mC:Mod (fun f=>f=j) B C:=by rw[←hCd];exact mod_put B j _ rfl
 have mAll:Mod (JW b K) A C:=(mB.mono fun f _ hf=>.inr (h7 f hf).1).trans (mC.mono fun f _ hf=>by subst hf;exact .inr h.kj)
 have hs'j:s'.into j=false:=by
  cases hi:s'.into j with
  | false=>rfl
  | true=>
   rcases k4 j hi with h|h
   ·exact absurd rfl (h7 j h).2
   ·omega
 have u:=kInto_up K A s' (b+2)
 refine⟨rs,s',B,C,kInto K A.next s' (b+2),h1.ld 4 rfl,h4.sl.notBot,h4.sl.beq,fun A' hg=>?_,k1,Sl.notBot k2.own.sl,hgj,st1,u,kInto_fresh hK (show Sl C 1 s' _ from Sl.mod k2.own.sl mC (fun f hf hW=>by subst hW;rw[hs'j] at hf;cases hf)) (mAll.next),?_,mAll⟩
 ·have e:loadV A' 1 false (.ptr (some (j,0,4)))=loadV A 1 false (.ptr (some (j,0,4))):=by
   unfold loadV
   dsimp only
   rw[St.cells_ext (p:=(j,0,4)) (A:=A) (B:=A') hg]
  rw[e]
  exact h1.ld 4 rfl
 ·have hw:∀ f,JW b K f→K f≠0:=fun f hf=>hf.ne0
  have hWm:∀ f,rs.into f=true∨f=j→K f=b+2:=by
   rintro f (hf|rfl)
   ·exact (h7 f hf).1
   ·exact h.kj
  have mP:Mod (fun f=>rs.into f=true∨f=j) A C:=(mB.mono fun f _ hf=>.inl hf).trans (mC.mono fun f _ hf=>.inr hf)
  have hWm':∀ f,rs.into f=true∨f=j→kInto K A.next s' (b+2) f=b+2:=fun f hf=>by
   rw[u f (by
    rcases hf with hf|rfl
    ·exact Sl.into_lt h4.sl hf
    ·exact hjlt)]
   exact hWm f hf
  have htp:TpC b (kInto K A.next s' (b+2)) C p m jd.t:=(h.tp.up u).mod mP fun f hf=>by have:=hWm' f hf;omega
  refine⟨htp,⟨st,s',ps++[v],st2,Sl.mod h2 mP (fun f hf hW=>by have:=hWm f hW;have:=h3 f hf;omega),h3.up h2 u,Own_mod k2.own mC (fun f hf hW=>by subst hW;rw[hs'j] at hf;cases hf),PartsB.mod mC k2.parts (fun w hw f hf hW=>?_),?_,fun f hf=>⟨?_,fun e=>by subst e;rw[hs'j] at hf;cases hf⟩⟩,by rw[u j hjlt];exact h.kj,⟨h.ok.cur,h.ok.seg,h.ok.state,fun r hr=>?_⟩⟩
  ·subst hW
   have hk:=h.kj
   rcases List.mem_append.1 hw with hw|hw
   ·have:=h6 w hw _ hf;omega
   ·have hw:w=v:=by simpa using hw
    subst hw
    have:=hro _ hf
    omega
  ·intro w hw
   rcases List.mem_append.1 hw with hw|hw
   ·exact PartsB_up h5 u h6 w hw
   ·have hw:w=v:=by simpa using hw
    subst hw
    exact hro.up hv u
  ·rcases k4 f hf with hf'|hf'
   ·exact hWm' f (.inl hf')
   ·unfold kInto;rw[if_pos ⟨hf',hf⟩]
  ·rcases List.mem_append.1 hr with hr|hr
   ·exact h.ok.recs r hr
   ·have hr:r=l:=by simpa using hr
    subst hr
    exact hl
theorem JoC.setCur {b:Nat} {K:Nat→Nat} {A:St} {j p m:Nat} {jd:JoD} (h:JoC b K A j p m jd) {c:Int} (hc:-1≤c∧c≤1048576) :
  ∃ B,storeV A 1 (.ptr (some (j,0,2))) (.int .i64 c)=some (.bot,B)∧Mod (JW b K) A B∧JoC b K B j p m { jd with cur:=c }:=by
 obtain⟨st,rs,ps,h1,h2,h3,h4,h5,h6,h7⟩:=h.ex
 obtain⟨st1,st2⟩:=h1.st 2 (by simp) (v:=.int .i64 c) rfl rfl rfl
 simp at st1 st2
 have mC:Mod (fun f=>f=j) A (A.put j (.cells [.ptr (some (p,0,0)),.int .i64 jd.seg,.int .i64 c,st,rs] [⟨0,0,5,1⟩] 1 false)):=mod_put A j _ rfl
 have hk:=h.kj
 refine⟨_,st1,mC.mono fun f _ hf=>by subst hf;exact .inr hk,h.tp.mod mC fun f hf=>by subst hf;omega,⟨st,rs,ps,st2,Sl.mod h2 mC (fun f hf hW=>by subst hW;have:=h3 _ hf;omega),h3,Own_mod h4 mC (fun f hf hW=>(h7 f hf).2 hW),PartsB.mod mC h5 (fun v hv f hf hW=>by subst hW;have:=h6 v hv _ hf;omega),h6,h7⟩,hk,⟨hc,h.ok.seg,h.ok.state,h.ok.recs⟩⟩
theorem JW_new {b:Nat} {K K':Nat→Nat} {A B C:St} (u:KUp K K' A) (h1:Mod (JW b K) A B) (h2:Mod (JW b K') B C):Mod (JW b K) A C:=
 h1.new (h2.mono fun f _ hf=>by
  by_cases hA:f<A.next
  ·left
   unfold JW at hf ⊢
   rw[u f hA] at hf
   exact hf
  ·right;omega)
theorem KUp.trans {K K' K'':Nat→Nat} {A B:St} (h:KUp K K' A) (h2:KUp K' K'' B) (hn:A.next≤B.next):KUp K K'' A:=fun f hf=>(h2 f (by omega)).trans (h f hf)
section
variable {D:Disp} {G0:Env} {X:Calls'} {A0:St}
theorem recs_spec {b:Nat} {K:Nat→Nat} {A:St} {j p m:Nat} {jd:JoD} (h:JoC b K A j p m jd) (hn:jd.recs.length<2^40):Ev D G0 fnsL X 81 [.ptr (some (j,0,0))] A fun r B=>A.Ext B∧∃ ps,Sl B 1 r ps∧PartsB B ps jd.recs∧(∀ f,r.into f=true→A.next≤f)∧∀ w∈ps,∀ f,w.into f=true→A.next≤f:=by
 refine Ev.fnK (fn:=a81) rfl ⟨by simp[a81],by decide⟩ ?_
 unfold a81
 obtain⟨st,rs,qs,h1,h2,h3,h4,h5,h6,h7⟩:=h.ex
 have l4:=h1.ld 4 (v:=rs) rfl
 have hl:=h4.sl.lenV1
 have hrec:=h.ok.recs
 have hrsl:=h4.sl
 rw[h5.length] at hl
 generalize jd.recs=ls at *
 simp[eqV,eqOf,AV.addr,l4,hl]
 refine Wp.loopK (fun d E A'=>A.Ext A'∧Env.at E 11=rs∧Env.at E 12=.int .i64 ls.length∧∃ (i:Nat) (out:AV) (ps:List AV),Env.at E 13=.int .i64 i∧i+d=ls.length∧Env.at E 3=out∧PL A.next A' out ps (ls.take i)∧∀ w∈ps,∀ f,w.into f=true→A.next≤f) ls.length ?_ ?_
 ·exact⟨St.Ext.refl A,by simp,by simp,0,.slice none 0 0 0 0,[],by simp,by simp,by simp,⟨.nil _ _ _,trivial,fun f hf=>by simp[AV.into] at hf⟩,fun w hw=>by cases hw⟩
 rintro d E A' ⟨x,e11,e12,i,out,ps,e13,hi,e3,hpl,hnew⟩
 simp[e12,e13,qoq,-qjq]
 refine qeq (fun hc=>?_) (fun hc=>?_)
 ·simp at hc
  obtain⟨v,l,hv,hl',hb⟩:=(h5.ext x).get (i:=i) (by rw[h5.length];exact hc)
  obtain⟨q,g1,g2⟩:=(Sl.ext x hrsl).at_one hv .i64
  have hll:=hrec l (List.mem_of_getElem? hl')
  have ea:=add_one (i:=i) (by omega)
  simp[-qbq] at ea
  simp[e11,e12,e13,e3,g1,g2,qaq,allKnown,hb.allKnown]
  refine (clone_spec hb hll).mono fun w B ⟨x2,ho⟩=>?_
  have hout:out.slen=i:=by
   have h1:=hpl.parts.length
   rw[List.length_take] at h1
   have h2:=hpl.own.sl.length
   omega
  have hplB:PL A.next B out ps (ls.take i):=⟨hpl.own.ext x2,hpl.parts.ext x2,hpl.apart⟩
  have hws:Bs B w l:=ho.sl
  obtain⟨s',C,k1,k2,k3,k4⟩:=hplB.snoc hws (Nat.le_trans x.next x2.next) (fun f hf=>by
   cases hiw:w.into f with
   | false=>rfl
   | true=>have:=ho.into hiw;have:=Sl.into_lt hpl.own.sl hf;omega) (by rw[hpl.parts.length,List.length_take];omega)
  simp[e3,e13,fillA,splice,hws.notBot,hws.cells,Made.value,k1,ea,-qbq]
  have x3:=qdq B [w] 1
  refine⟨d - 1,by omega,k3.ext ((x.trans x2).trans x3) (hplB.own.ext x3),e11,e12,i+1,by omega,by omega,ps++[w],?_,fun u hu f hf=>?_⟩
  ·rw[take_succ_of hl'];exact k2
  ·rcases List.mem_append.1 hu with hu|hu
   ·exact hnew u hu f hf
   ·have hu:u=w:=by simpa using hu
    subst hu
    have:=ho.into hf
    have:=x.next
    omega
 ·simp at hc
  have hil:i=ls.length:=by omega
  rw[hil,List.take_length] at hpl
  simp[e3,hpl.own.sl.known]
  exact⟨x,ps,hpl.own.sl,hpl.parts,fun f hf=>hpl.own.into hf,hnew⟩
theorem roll_spec (HX:RowsX X A0) {b:Nat} {K:Nat→Nat} {A:St} (hA:Wld K A0 A) {j p m:Nat} {jd:JoD} (h:JoC b K A j p m jd) {n:Nat} (hn:n<2^40) :
  Ev D G0 fnsL X 258 [.ptr (some (j,0,0)),.int .i64 n] A fun r B=>Mod (fun f=>f=p∨f=m) A B∧TpC b K B p m (jd.roll n).2.2∧∃ v,r=.tuple [.int .i64 (jd.roll n).1,v]∧EV B v (jd.roll n).2.1:=by
 refine Ev.fnK (fn:=a258) rfl ⟨by simp[a258],by decide⟩ ?_
 unfold a258
 obtain⟨st,rs,ps,h1,_⟩:=h.ex
 have l0:=h1.ld 0 (v:=.ptr (some (p,0,0))) rfl
 have l1:=h1.ld 1 (v:=.int .i64 jd.seg) rfl
 have l2:=h1.ld 2 (v:=.int .i64 jd.cur) rfl
 have hok:=h.ok
 unfold JoD.roll
 by_cases hc:jd.cur<0
 ·rw[if_pos hc]
  simp[AV.addr,l2,hc]
  exact⟨Mod.refl A,h.tp,EV.nil _⟩
 rw[if_neg hc]
 simp[AV.addr,l2,hc]
 refine Wp.envI (fun E=>Env.at E 0=.ptr (some (j,0,0))∧Env.at E 1=.int .i64 n) (by simp) ?_
 rintro E ⟨e0,e1⟩
 refine Wp.draws ?_
 simp[e0,AV.addr,l0,l2,qiq,allKnown,InAll,AV.beq]
 refine (len_spec h.tp).mono fun r B ⟨q1,q2⟩=>?_
 subst q1 q2
 simp[l0,l2]
 have hlen:jd.t.len jd.cur≤1048576:=(h.tp.ok.few_seg jd.cur).1
 generalize jd.t.len jd.cur=has at *
 have es:binOf .sub (.int .i64 jd.seg) (.int .i64 has)=some (.int .i64 (jd.seg - has)):=by
  rw[qsq,IntKind.wrap_i64]
  have:=hok.seg
  congr 2
  omega
 have el:binOf .leq (.int .i64 (n:Int)) (.int .i64 (jd.seg - has))=some (.bool (decide ((n:Int)≤jd.seg - has))):=by rw[bin_leq]
 have eq0:binOf .eql (.int .i64 (has:Int)) (.int .i64 0)=some (.bool (decide (has=0))):=by rw[qqq];simp
 by_cases h0:has=0∨(n:Int)≤jd.seg - has
 ·rw[if_pos h0]
  by_cases hz:has=0
  ·simp[e0,AV.addr,l0,l1,l2,eq0,hz,-qqq,-bin_leq,-qsq]
   exact⟨Mod.refl A,h.tp,EV.nil _⟩
  ·have hle:(n:Int)≤jd.seg - has:=by
    rcases h0 with h|h
    ·exact absurd h hz
    ·exact h
   simp[e0,e1,AV.addr,l0,l1,l2,eq0,hz,es,el,hle,-qqq,-bin_leq,-qsq]
   exact⟨Mod.refl A,h.tp,EV.nil _⟩
 ·rw[if_neg h0]
  have hz:¬has=0:=fun h=>h0 (.inl h)
  have hle:¬(n:Int)≤jd.seg - has:=fun h=>h0 (.inr h)
  have ea:binOf .add (.int .i64 jd.cur) (.int .i64 1)=some (.int .i64 (jd.cur+1)):=by
   rw[qbq,IntKind.wrap_i64]
   have:=hok.cur
   congr 2
   omega
  simp[e0,e1,AV.addr,l0,l1,l2,eq0,hz,es,el,hle,-qqq,-bin_leq,-qsq]
  refine Wp.envI (fun E=>Env.at E 0=.ptr (some (j,0,0))) (by simp[e0]) ?_
  intro E2 f0
  refine Wp.draws ?_
  simp[f0,AV.addr,l0,l2,ea,qiq,allKnown,-qbq]
  refine (sync_spec HX hA h.tp).mono fun r B ⟨q1,q2,q3⟩=>?_
  subst q3
  have hJ:=h.tape q1 q2
  obtain⟨st',rs',ps',h1',_⟩:=hJ.ex
  have l0':=h1'.ld 0 (v:=.ptr (some (p,0,0))) rfl
  have l2':=h1'.ld 2 (v:=.int .i64 jd.cur) rfl
  simp[l0,l2,l0',l2',qiq,allKnown]
  refine on_spec.mono fun r2 C ⟨x2,h4⟩=>?_
  have l2'':=(h1'.ext x2).ld 2 (v:=.int .i64 jd.cur) rfl
  have hkn:known r2=some r2:=by
   rcases h4 with ⟨_,rfl⟩|⟨_,k,ty,u,_,rfl,_⟩<;>rfl
  simp[InAll,l0,l2,l0',l2',l2'',AV.beq,hkn]
  exact⟨q1.trans (Mod.of_ext x2),q2.ext x2,h4⟩
end
attribute [-simp] List.length_flatten
variable {D:Disp} {G0:Env} {X:Calls'}

theorem wrap_spec {A:St} {s:AV} {ps:List AV} {ls:List (List UInt8)} (hs:Sl A 1 s ps) (hp:PartsB A ps ls) (hl:ps.length<2^40) (hll:∀ l∈ls,l.length<2^40) :
  Ev D G0 fnsL X 160 [s] A fun r B=>(ls.flatten.length≤16384∧A.Ext B∧OwnB A.next B r (frame ls.flatten))∨(16384<ls.flatten.length∧A=B∧r=.slice none 0 0 0 0):=by
 refine Ev.fnK (fn:=a160) rfl ⟨by simp[a160],by decide⟩ ?_
 unfold a160
 simp[hs.lenV1]
 refine Wp.loopK (fun d E A'=>A=A'∧Env.at E 0=s∧Env.at E 10=s∧Env.at E 11=.int .i64 ps.length∧∃ i:Nat,Env.at E 12=.int .i64 i∧i+d=ps.length∧(ls.take i).flatten.length≤16384∧Env.at E 3=.int .i64 (ls.take i).flatten.length) ps.length ?_ ?_
 ·exact⟨rfl,by simp,by simp,by simp,0,by simp,by simp,by simp,by simp⟩
 rintro d E _ ⟨rfl,e0,e10,e11,i,e12,hi,hn,e3⟩
 simp[e12,e11,qoq,-qjq]
 refine qeq (fun hc=>?_) (fun hc=>?_)
 ·simp at hc
  obtain⟨v,l,hv,hl',hb⟩:=hp.get hc
  obtain⟨p,h1,h2⟩:=hs.at_one hv .i64
  have hln:=hll l (List.mem_of_getElem? hl')
  have htk:=take_flatten_succ hl'
  have hnn:(ls.take (i+1)).flatten.length=(ls.take i).flatten.length+l.length:=by rw[htk,List.length_append]
  have hle:(ls.take (i+1)).flatten.length≤ls.flatten.length:=by
   conv=>rhs;rw[←List.take_append_drop (i+1) ls,List.flatten_append,List.length_append]
   omega
  generalize (ls.take i).flatten.length=n at *
  obtain⟨y,hy,ey⟩:=sub_nat (a:=16384) (b:=n) hn (by decide)
  obtain⟨z,hz,ez⟩:=add_nat (a:=n) (b:=l.length) (by omega) (by omega)
  have ea:=add_one (i:=i) (by omega)
  simp[-qsq] at ey
  simp[e10,e12,h1,h2,hb.lenV,e3,ey,-qsq]
  refine qeq (fun hc2=>?_) (fun hc2=>?_)
  ·simp at hc2
   simp
   omega
  ·simp at hc2
   simp[e3,hb.lenV,ez,e12,ea,-qbq]
   exact⟨d - 1,by omega,e0,e10,e11,i+1,by omega,by omega,by omega,by omega⟩
 ·simp at hc
  have hil:i=ls.length:=by rw[←hp.length];omega
  rw[hil,List.take_length] at hn e3
  generalize hL:ls.flatten=L at *
  generalize hN:L.length=n at *
  obtain⟨y,hy,ey⟩:=add_nat (a:=n) (b:=3) (by omega) (by omega)
  obtain⟨z,hz,ez⟩:=add_nat (a:=y) (b:=4) (by omega) (by omega)
  obtain⟨q,hq,eq⟩:=shr_nat (k:=.i64) (j:=.u64) (a:=n) (s:=8) (by decide)
  simp[-qbq] at ey ez
  simp at eq
  have hmk:makeV 1 1 [.int .u8 0] (.int .i64 0) (.int .i64 z)=some ((List.replicate z [AV.int .u8 0]).flatten,1,.slice 0 z 0):=
   makeV_nat (l:=0) (Nat.zero_le _) (by omega) (by omega) rfl
  simp[e0,e11,e12,e3,ey,ez,eq,hmk,conv_u8,-qhq,-qbq,-qjq,fillA,splice,Made.value]
  have hq':q=n / 256:=hq
  have h3b:[AV.int .u8 167,byteV (UInt8.ofNat q),byteV (UInt8.ofNat n)]=bytesV [167,UInt8.ofNat (n / 256),UInt8.ofNat (n % 256)]:=by rw[hq',ofNat_mod];rfl
  rw[h3b]
  have ho:AM.Own A.next (A.make (List.replicate z (AV.int .u8 0)) 1).2 1 (.slice (some (A.next,0,0)) 0 0 z 0) []:=by
   simpa using qtq A (cs:=List.replicate z (AV.int .u8 0)) (sz:=1) (n:=z) (by simp) (Nat.le_refl _) (len:=0) (Nat.zero_le _)
  have x1:=qdq A (List.replicate z (AV.int .u8 0)) 1
  generalize (A.make (List.replicate z (AV.int .u8 0)) 1).2=A1 at *
  have ho3:AM.Own A1.next (A1.make (bytesV [167,UInt8.ofNat (n / 256),UInt8.ofNat (n % 256)]) 1).2 1 (.slice (some (A1.next,0,0)) 0 3 3 0) (bytesV [167,UInt8.ofNat (n / 256),UInt8.ofNat (n % 256)]):=own_built A1 (by simp)
  have x2:=qdq A1 (bytesV [167,UInt8.ofNat (n / 256),UInt8.ofNat (n % 256)]) 1
  generalize (A1.make (bytesV [167,UInt8.ofNat (n / 256),UInt8.ofNat (n % 256)]) 1).2=A2 at *
  obtain⟨s1,A3,h1,h2,h3,h4,h5⟩:=qpq (bytes:=1) (ho.ext x2) ho3.sl (Nat.le_trans x1.next x2.next) (by decide) (bytesV_flat _) (by rw[qnq,qnq];omega) (by rw[qnq,qnq];omega)
  have x3:=h4.ext (x1.trans x2) (ho.ext x2)
  simp[h1,e0,hs.lenV1]
  refine Wp.loopK (fun d E A'=>A.Ext A'∧Env.at E 37=s∧Env.at E 38=.int .i64 ps.length∧∃ (i:Nat) (o:AV),Env.at E 39=.int .i64 i∧i+d=ps.length∧Env.at E 6=o∧AM.Own A.next A' 1 o (bytesV ([167,UInt8.ofNat (n / 256),UInt8.ofNat (n % 256)]++(ls.take i).flatten))) ps.length ?_ ?_
  ·exact⟨x3,by simp,by simp,0,s1,by simp,by simp,by simp,by simpa using h3⟩
  rintro d E B ⟨xB,f37,f38,i,o,f39,hi,f6,hoB⟩
  simp[f37,f38,f39,qoq,-qjq]
  refine qeq (fun hc=>?_) (fun hc=>?_)
  ·simp at hc
   obtain⟨v,l,hv,hl',hb⟩:=(hp.ext xB).get hc
   obtain⟨p,g1,g2⟩:=(Sl.ext xB hs).at_one hv .i64
   have htk:=take_flatten_succ hl'
   have hle:(ls.take (i+1)).flatten.length≤n:=by
    rw[←hN,←hL]
    conv=>rhs;rw[←List.take_append_drop (i+1) ls,List.flatten_append,List.length_append]
    omega
   rw[htk,List.length_append] at hle
   have ea:=add_one (i:=i) (by omega)
   have hol:=Bs.len hoB.sl
   simp only[List.length_append,List.length_cons,List.length_nil] at hol
   obtain⟨s2,B2,k1,k2,k3,k4,k5⟩:=qpq (bytes:=1) hoB hb xB.next (by decide) (bytesV_flat _) (by rw[hol,Bs.len hb];omega) (by rw[hol,Bs.len hb];omega)
   simp[f37,f38,f39,f6,g1,g2,k1,ea,-qbq]
   refine⟨d - 1,by omega,k4.ext xB hoB,i+1,by omega,by omega,?_⟩
   rw[htk]
   show AM.Own A.next B2 1 s2 (bytesV (([167,UInt8.ofNat (n / 256),UInt8.ofNat (n % 256)]++(ls.take i).flatten)++l))
   rw[qzq]
   exact k3
  ·simp at hc
   have hil:i=ls.length:=by rw[←hp.length];omega
   rw[hil,List.take_length,hL] at hoB
   have hhd:[167,UInt8.ofNat (n / 256),UInt8.ofNat (n % 256)]++L=headOf L:=by rw[←hN];rfl
   rw[hhd] at hoB
   have hlen:(headOf L).length=n+3:=by rw[←hN];rfl
   have hol:=Bs.len hoB.sl
   rw[hlen] at hol
   simp[f6,fillA,splice,Made.value,hoB.sl.cells,hoB.sl.notBot,allKnown,qaq]
   have hp1:Sl (B.make [o] 1).2 1 (.slice (some (B.next,0,0)) 0 1 1 0) [o]:=(own_built B (cs:=[o]) rfl).sl
   have xB1:=qdq B [o] 1
   generalize (B.make [o] 1).2=B1 at *
   refine (sum_spec (ls:=[headOf L]) hp1 ⟨Sl.ext xB1 hoB.sl,trivial⟩ (by simp) (by simp[hlen];omega)).mono fun r B' ⟨e1,e2⟩=>?_
   rw[e1,e2]
   simp only[List.flatten_cons,List.flatten_nil,List.append_nil]
   have hlt:=crcSum_lt (headOf L)
   have hfr:frame L=headOf L++sumOf (crcSum (headOf L)):=rfl
   generalize crcSum (headOf L)=S at *
   obtain⟨q1,hq1,eq1⟩:=shr_nat (k:=.u32) (j:=.u64) (a:=S) (s:=24) (by decide)
   obtain⟨q2,hq2,eq2⟩:=shr_nat (k:=.u32) (j:=.u64) (a:=S) (s:=16) (by decide)
   obtain⟨q3,hq3,eq3⟩:=shr_nat (k:=.u32) (j:=.u64) (a:=S) (s:=8) (by decide)
   simp at eq1 eq2 eq3
   simp[f6,eq1,eq2,eq3,conv_u8,-qhq,fillA,splice,Made.value]
   have hcs2:[byteV (UInt8.ofNat q1),byteV (UInt8.ofNat q2),byteV (UInt8.ofNat q3),byteV (UInt8.ofNat S)]=bytesV (sumOf S):=by rw[hq1,hq2,hq3];rfl
   rw[hcs2]
   have hoB1:=hoB.ext xB1
   have ho2:AM.Own B1.next (B1.make (bytesV (sumOf S)) 1).2 1 (.slice (some (B1.next,0,0)) 0 4 4 0) (bytesV (sumOf S)):=by
    exact own_built B1 (by simp[sumOf])
   have x4:=qdq B1 (bytesV (sumOf S)) 1
   generalize (B1.make (bytesV (sumOf S)) 1).2=B2 at *
   have xB2:=(xB.trans xB1).trans x4
   obtain⟨s4,B3,k1,k2,k3,k4,k5⟩:=qpq (bytes:=1) (hoB1.ext x4) ho2.sl xB2.next (by decide) (bytesV_flat _) (by rw[hol,qnq];omega) (by rw[hol,qnq];omega)
   simp[k1,k3.sl.known]
   refine Or.inl ⟨hn,k4.ext xB2 (hoB1.ext x4),?_⟩
   rw[hfr]
   show AM.Own A.next B3 1 s4 (bytesV (headOf L++sumOf S))
   rw[qzq]
   exact k3
end Go.Proofs.YtlaoookdegmnnaaGreatDoor
