/- The abstract machine: the sorted keys of a map with texts for keys, as a row of its table. -/
import Derived.Test.YtlaoookdegmnnaaGreatDoorStBase
import Derived.Maps.Own
import Derived.Sort.KeysCollected
import Derived.Shelf.SlIter.Nil
import Derived.Shelf.SlIter.Sorted
set_option linter.unusedVariables false
set_option linter.unusedSimpArgs false
namespace Go.AM
open Go.Sort Go.Proofs Go.WideElems

section
variable {F:Fr} {m:Mu} {A:St} {w:World}
theorem Rel.adopt (R:Rel F m A w) {g:Nat} {C:Array Value} {e:TypeId} {fz:Nat × Nat} (hg:w.heap[g]?=some (.cells C e fz)) (hF:F g=none) (hfar:∀ f v l,m f v=some l→l.cb≠g) {cs:List AV} {ys:List Value} (hys:cvos m cs=some ys) {cap sz:Nat}
  (hC:∀ (j:Nat) (y:Value),ys[j]?=some y→C[j]?=some y) (hcap:cap*sz≤C.size) (hlen:cs.length≤cap*sz) (hu:fz.1=fz.2) :
  Rel F (m.add A.next 0 ⟨g,0,0,cap,sz⟩) (A.push (.cells cs [⟨0,0,cs.length,sz⟩] 1 false)) w∧m.le (m.add A.next 0 ⟨g,0,0,cap,sz⟩):=by
 have hfz:∀ j,j<C.size→(decide (fz.1≤j)&&decide (j<fz.2))=false:=fun j hj=>by
  rw[Bool.and_eq_false_iff,decide_eq_false_iff_not,decide_eq_false_iff_not];omega
 have hcell:∀ j,w.cell? ⟨g,j,none⟩=C[j]?:=fun j=>by simp[World.cell?,hg]
 have hfro:∀ j,j<C.size→w.frozen? ⟨g,j,none⟩=false:=fun j hj=>by
  have:=hfz j hj
  simp[World.frozen?,hg]
  simpa using this
 have hnone:∀ v,m A.next v=none:=fun v=>by
  cases h:m A.next v with
  | none=>rfl
  | some l=>exact absurd (R.dom _ _ _ h).1 (by omega)
 have hle:=Mu.le_add ⟨g,0,0,cap,sz⟩ (hnone 0)
 have hof:∀ g' u k,(m.add A.next 0 ⟨g,0,0,cap,sz⟩) g' u=some k→(g'=A.next∧u=0∧k=⟨g,0,0,cap,sz⟩)∨(g'≠A.next∧m g' u=some k):=by
  intro g' u k h
  unfold Mu.add at h
  dsimp only at h
  split at h
  ·rename_i c;cases h;exact .inl ⟨c.1,c.2,rfl⟩
  ·refine .inr ⟨?_,h⟩
   intro hg';subst hg';rw[hnone] at h;cases h
 refine⟨⟨fun f v l h=>?_,fun f b h=>?_,R.keep,R.rest,fun f v l g' u k h1 h2 hne hf=>?_,fun f v l h1 h2=>?_,fun f v l u k h1 h2 he=>?_,fun f l h1 h2=>?_,R.frm⟩,hle⟩
 ·rcases hof f v l h with ⟨rfl,rfl,rfl⟩|⟨_,h⟩
  ·exact⟨Nat.lt_succ_self _,(Array.getElem?_eq_some_iff.1 hg).1⟩
  ·have:=R.dom f v l h;exact⟨by simp;omega,this.2⟩
 ·rw[St.get_push] at h
  split at h
  ·rename_i hf
   subst hf
   cases h
   refine⟨fun x hx=>?_,fun v hv=>?_⟩
   ·simp at hx;subst hx
    refine⟨⟨g,0,0,cap,sz⟩,by simp[Mu.add],rfl,rfl,Nat.le_refl _,fun i a _ hi ha=>?_,fun _=>⟨hF,by simpa using hlen,fun j hj=>?_⟩⟩
    ·obtain⟨y,hy,hj⟩:=cvos_get hys ha
     exact⟨y,quq hle _ _ hy,by simp[hcell];exact hC i y hj⟩
    ·have hj':j<C.size:=Nat.lt_of_lt_of_le hj hcap
     constructor
     ·simp[hcell,hj']
     ·simp only[Nat.zero_add]
      exact hfro j hj'
   ·simp only[Mu.add]
    rw[if_neg (by rintro ⟨_,h⟩;omega)]
    exact hnone v
  ·rename_i hf
   exact blkR_mono hle (fun u hu=>by simp only[Mu.add];rw[if_neg (by rintro ⟨q,_⟩;exact hf q)];exact hu) (R.got f b h) (fun _ _ _=>rfl)
 ·have hrw:∀ g',g'≠A.next→(A.push (.cells cs [⟨0,0,cs.length,sz⟩] 1 false)).Rw g'→A.Rw g':=fun g' hg' ⟨b,hb,hr⟩=>by
   rw[St.get_push,if_neg hg'] at hb;exact⟨b,hb,hr⟩
  rcases hof f v l h1 with ⟨rfl,rfl,rfl⟩|⟨n1,h1⟩<;>rcases hof g' u k h2 with ⟨rfl,rfl,rfl⟩|⟨n2,h2⟩
  ·exact absurd rfl hne
  ·exact fun h=>hfar _ _ _ h2 h.symm
  ·exact hfar _ _ _ h1
  ·exact R.apart f v l g' u k h1 h2 hne (hrw _ n1 hf)
 ·rcases hof f v l h1 with ⟨rfl,rfl,rfl⟩|⟨n1,h1⟩
  ·intro c e' fz' hc
   have hc:w.heap[g]?=some (.cells c e' fz'):=hc
   rw[hg] at hc;cases hc;exact .inl hu
  ·refine R.unf f v l h1 ?_
   obtain⟨b,hb,hr⟩:=h2
   rw[St.get_push,if_neg n1] at hb
   exact⟨b,hb,hr⟩
 ·rcases hof f v l h1 with ⟨rfl,rfl,rfl⟩|⟨n1,h1⟩<;>rcases hof _ u k h2 with ⟨e,rfl,rfl⟩|⟨n2,h2⟩
  ·rfl
  ·exact absurd rfl n2
  ·exact absurd e n1
  ·exact R.same f v l u k h1 h2 he
 ·rcases hof f 0 l h1 with ⟨rfl,_,rfl⟩|⟨n1,h1⟩
  ·rfl
  ·obtain⟨b,hb,hr⟩:=h2
   rw[St.get_push,if_neg n1] at hb
   exact R.orig f l h1 ⟨b,hb,hr⟩
end

def keysStr:List (AV × AV × Nat)→Option (List (List UInt8))
 | []=>some []
 | (.str s,_,_)::l=>match keysStr l with|some r=>some (s::r)|none=>none
 | _::_=>none
def distinctS:List (List UInt8)→Bool
 | []=>true
 | x::l=>!l.contains x&&distinctS l
def stampsOk (clock:Nat):List (AV × AV × Nat)→Bool
 | []=>true
 | [e]=>Nat.blt e.2.2 clock
 | e::f::l=>Nat.blt e.2.2 f.2.2&&stampsOk clock (f::l)
def shortS:List (List UInt8)→Bool
 | []=>true
 | s::l=>Nat.ble s.length 1000000&&shortS l
def isRw (A:St) (f:Nat):Bool:=
 match A.get f with
 | some (.cells _ _ _ ro)=>!ro
 | _=>false
def sortedKeysX (g0:FuncId):List AV→St→Option (AV × St)
 | [.func (.func g) [] [.ptr (some (pf,0,0))]],A=>bif Nat.beq g g0&&isRw A pf then (match A.cells (pf,0,0) 1 with
  | some [.map (some f)]=>match A.get f with
   | some (.map es clock)=>match keysStr es with
    | some ss=>bif Nat.ble es.length 1000000&&(stampsOk clock es&&(distinctS ss&&shortS ss)) then
      (match sortB leS ss with
      | []=>some (.slice none 0 0 0 0,A)
      | x::l=>some (.slice (some (A.next,0,0)) 0 (l.length+1) 0 1,(A.make ((x::l).map .str) 1).2)) else none
    | none=>none
   | _=>none
  | _=>none) else none
 | _,_=>none

theorem keysStr_spec:∀ {es:List (AV × AV × Nat)} {ss:List (List UInt8)},keysStr es=some ss→es.map (·.1)=ss.map AV.str
 | [],ss,h=>by cases h;rfl
 | (k,v,b)::l,ss,h=>by
  cases k<;>simp only[keysStr] at h<;>try (cases h;done)
  split at h
  ·rename_i r hr
   cases h
   simp[keysStr_spec hr]
  ·cases h
theorem distinctS_spec:∀ {l:List (List UInt8)},distinctS l=true→l.Nodup
 | [],_=>List.nodup_nil
 | x::l,h=>by
  simp only[distinctS,Bool.and_eq_true,Bool.not_eq_true'] at h
  exact List.nodup_cons.2 ⟨by simpa using h.1,distinctS_spec h.2⟩
theorem shortS_spec:∀ {l:List (List UInt8)},shortS l=true→∀ s∈l,s.length≤1000000
 | [],_,s,h=>by cases h
 | x::l,h,s,hs=>by
  simp only[shortS,Bool.and_eq_true] at h
  rcases List.mem_cons.1 hs with rfl|hs
  ·exact Nat.le_of_ble_eq_true h.1
  ·exact shortS_spec h.2 s hs
theorem stampsOk_spec {clock:Nat}:∀ {l:List (AV × AV × Nat)},stampsOk clock l=true→(∀ e∈l,e.2.2<clock)∧l.Pairwise fun a b=>a.2.2<b.2.2
 | [],_=>⟨fun e h=>(by cases h),List.Pairwise.nil⟩
 | [e],h=>⟨fun x hx=>by
   have:=List.mem_singleton.1 hx
   subst this
   simp only[stampsOk,Nat.blt_eq] at h
   exact h,List.pairwise_singleton _ _⟩
 | e::f::l,h=>by
  simp only[stampsOk,Bool.and_eq_true,Nat.blt_eq] at h
  obtain⟨i1,i2⟩:=stampsOk_spec h.2
  have hall:∀ x∈f::l,e.2.2<x.2.2:=fun x hx=>by
   rcases List.mem_cons.1 hx with rfl|hx
   ·exact h.1
   ·exact Nat.lt_trans h.1 ((List.pairwise_cons.1 i2).1 x hx)
  exact⟨fun x hx=>by
   rcases List.mem_cons.1 hx with rfl|hx
   ·exact Nat.lt_trans h.1 (i1 f List.mem_cons_self)
   ·exact i1 x hx,List.pairwise_cons.2 ⟨hall,i2⟩⟩
theorem MapR.keys {m:Mu}:∀ {es:List (AV × AV × Nat)} {l:List MapEntry},MapR m es l→∀ {ss:List (List UInt8)},es.map (·.1)=ss.map AV.str→l.map (·.key)=ss.map encStr∧l.map (·.born)=es.map (·.2.2)∧l.length=es.length
 | [],[],_,ss,h=>by cases ss with
  | nil=>exact⟨rfl,rfl,rfl⟩
  | cons=>cases h
 | (k,v,b)::es,e::l,⟨⟨h1,h2,h3⟩,h4⟩,ss,h=>by
  cases ss with
  | nil=>cases h
  | cons s ss=>
   simp only[List.map_cons,List.cons.injEq] at h
   obtain⟨rfl,h⟩:=h
   obtain⟨g1,g2,g3⟩:=MapR.keys h4 h
   simp only[cvo,Option.some.injEq] at h1
   refine⟨by simp[g1,←h1,encStr],by simp[g2,h3],by simp[g3]⟩
 | [],_::_,h,_,_=>h.elim
 | _::_,[],h,_,_=>h.elim

section
variable {P:Program} {F:Fr} {m:Mu} {A B:St} {w:World}
abbrev unitR:Value→Option (DataW Unit × List MemPlace):=fun _=>some (.lit (.bool true),[])
theorem sortedKeys_ok {f g0:FuncId} {kt:TypeId} (hkt:P.underlying kt=some .string)
  (hsorted:∀ (Bm b nn:Nat) (D0:DataW Unit) (W:World),Bm<W.heap.size→W.cell? ⟨Bm,0,none⟩=some (.map (some b))→W.ownsMap P kt unitR b nn D0→Maps.size D0≤maxLen→Maps.size D0*16≤140737488355328 →
   Calls P f #[.func (.func g0) #[] #[.pointer (some ⟨Bm,0,none⟩)]] W fun e w'=>∃ (v:Value) (ss:List (List UInt8)),e=.returned v∧ss.Perm (strKeys D0) ∧
    w'.ownsRow W.heap.size kt 1 v ss.length ((ss.mergeSort (fun x y=>decide (x≤y))).map encStr)∧(v=.slice none 0 0↔ss=[])∧RowKit.Below W.heap.size W w')
  {args:List AV} {r:AV} (h:sortedKeysX g0 args A=some (r,B)) (R:Rel F m A w) {cargs:List Value} (hc:cvos m args=some cargs):CallOk P F m r B f cargs.toArray w:=by
 unfold sortedKeysX at h
 split at h
 rotate_left
 ·cases h
 rename_i g pf
 cases hgg0:Nat.beq g g0&&isRw A pf with
 | false=>rw[hgg0] at h;cases h
 | true=>
 rw[hgg0] at h
 simp only[Bool.and_eq_true] at hgg0
 obtain⟨hgg,hrw0⟩:=hgg0
 obtain rfl:=Nat.eq_of_beq_eq_true hgg
 have hrw:A.Rw pf:=by
  unfold isRw at hrw0
  split at hrw0
  ·rename_i hb
   refine⟨_,hb,?_⟩
   simpa[Blk.ro] using hrw0
  ·cases hrw0
 simp only[cond_true] at h
 split at h
 rotate_left
 ·cases h
 rename_i mf hcell
 split at h
 rotate_left
 ·cases h
 rename_i es clock hmap
 split at h
 rotate_left
 ·cases h
 rename_i ss hss
 cases hch:Nat.ble es.length 1000000&&(stampsOk clock es&&(distinctS ss&&shortS ss)) with
 | false=>rw[hch] at h;cases h
 | true=>
 rw[hch] at h
 simp only[cond_true] at h
 simp only[Bool.and_eq_true] at hch
 obtain⟨c1,c2,c3,c4⟩:=hch
 have c1:=Nat.le_of_ble_eq_true c1
 obtain⟨c2,c2'⟩:=stampsOk_spec c2
 have c3:=distinctS_spec c3
 have c4:=shortS_spec c4
 obtain⟨b,o,ys,g1,g2,g3,g4⟩:=R.cells hcell
 simp only[cvos,cvo] at hc g2
 cases hmu:m mf 0 with
 | none=>rw[hmu] at g2;cases g2
 | some l=>
 rw[hmu] at g2
 simp only[Option.map_some,Option.some.injEq] at g2
 subst g2
 rw[g1] at hc
 simp only[Option.map_some,Option.some.injEq] at hc
 subst hc
 have hcellw:=g4 0 _ rfl
 rw[Nat.add_zero] at hcellw
 obtain⟨l2,es',j1,j2,j3,j4⟩:=R.got mf _ hmap
 rw[hmu] at j1
 cases j1
 obtain⟨k1,k2,k3⟩:=j4.keys (keysStr_spec hss)
 have hst:MapKept.Stamped es' clock:=by
  rw[MapKept.stamped_iff]
  refine⟨fun x hx=>?_,?_,?_⟩
  ·have:x.born∈es'.toList.map (·.born):=List.mem_map_of_mem hx
   rw[k2] at this
   obtain⟨e,he,hb⟩:=List.mem_map.1 this
   rw[←hb];exact c2 e he
  ·rw[k2]
   rw[List.Nodup,List.pairwise_map]
   exact c2'.imp fun h=>Nat.ne_of_lt h
  ·have hn:(es'.toList.map (·.key)).Nodup:=by
    rw[k1]
    rw[List.Nodup,List.pairwise_map]
    exact c3.imp fun hne e=>hne (encStr_inj e)
   rw[List.Nodup,List.pairwise_map] at hn
   exact hn
 have hsz:es'.size=es.length:=by rw[←k3];simp
 have hkey:∀ x∈es'.toList,∃ s,x.key=encStr s∧s∈ss:=fun x hx=>by
  have:x.key∈es'.toList.map (·.key):=List.mem_map_of_mem hx
  rw[k1] at this
  obtain⟨s,hs,he⟩:=List.mem_map.1 this
  exact⟨s,he.symm,hs⟩
 have hko:∀ s∈ss,keyOf P kt (encStr s)=some (.string s):=fun s hs=>by
  have hlen:=c4 s hs
  have h1:keyOf P kt (encStr s)=mapKey P kt (encStr s):=by unfold keyOf;rw[hkt]
  rw[h1]
  unfold mapKey
  rw[hkt]
  have:(⟨s.toArray⟩:ByteArray).size≤maxLen:=by
   have e:(⟨s.toArray⟩:ByteArray).size=s.length:=List.size_toArray ..
   rw[e]
   have:(1000000:Nat)≤maxLen:=by decide
   omega
  simp[encStr,this]
 have hrd:∀ x∈es'.toList,∃ s,x.key=encStr s∧rd P kt unitR x=some (.string s,.lit (.bool true)):=fun x hx=>by
  obtain⟨s,hs,hm⟩:=hkey x hx
  refine⟨s,hs,?_⟩
  unfold rd
  rw[hs,hko s hm]
  rfl
 have hfit:Fit P kt unitR es' clock:=⟨by rw[hsz];have:(1000000:Nat)≤maxLen:=by decide
                                         omega,hst,fun x hx=>by obtain⟨s,_,h⟩:=hrd x hx;exact⟨_,h⟩⟩
 have hown:w.ownsMap P kt unitR l.cb es'.size (.map ((es'.toList.map (rg P kt unitR)).foldr DataW.insert [])):=⟨es',clock,j2,hfit,Nat.le_refl _,rfl⟩
 have hperm:((es'.toList.map (rg P kt unitR)).foldr DataW.insert []).Perm (es'.toList.map (rg P kt unitR)):=WideShapes.sorted_perm _
 have hks:(strKeys (.map ((es'.toList.map (rg P kt unitR)).foldr DataW.insert []):DataW Unit)).Perm ss:=by
  show (((es'.toList.map (rg P kt unitR)).foldr DataW.insert []).map fun p=>strOf p.1).Perm ss
  refine (hperm.map _).trans ?_
  rw[List.map_map]
  have:es'.toList.map ((fun p=>strOf p.1)∘rg P kt unitR)=ss:=by
   have h1:es'.toList.map ((fun p=>strOf p.1)∘rg P kt unitR)=es'.toList.map fun x=>strOf (.string (match x.key with|.string s=>s.data.toList|_=>[])):=List.map_congr_left fun x hx=>by
    obtain⟨s,hs,hr⟩:=hrd x hx
    simp only[Function.comp_apply]
    rw[rg_of hr,hs]
   rw[h1]
   have h2:es'.toList.map (fun x=>strOf (.string (match x.key with|.string s=>s.data.toList|_=>[])))=(es'.toList.map (·.key)).map fun k=>strOf (.string (match k with|.string s=>s.data.toList|_=>[])):=by rw[List.map_map];rfl
   rw[h2,k1,List.map_map]
   conv=>rhs;rw[←List.map_id ss]
   refine List.map_congr_left fun s _=>?_
   simp[encStr,strOf]
  rw[this]
 have hsize:Maps.size (.map ((es'.toList.map (rg P kt unitR)).foldr DataW.insert []):DataW Unit)=es.length:=by
  show ((es'.toList.map (rg P kt unitR)).foldr DataW.insert []).length=_
  rw[hperm.length_eq,List.length_map,k3]
 have hblk:b<w.heap.size:=by
  rcases Nat.lt_or_ge b w.heap.size with h|h
  ·exact h
  ·unfold World.cell? at hcellw
   rw[Array.getElem?_eq_none h] at hcellw
   cases hcellw
 have ho0:o=0:=by
  unfold plc at g1
  split at g1
  ·rename_i lp hlp
   split at g1
   ·rename_i hle
    have:=R.orig pf lp hlp hrw
    have e:=Option.some.inj g1
    simp only[Addr.mk.injEq] at e
    omega
   ·cases g1
  ·cases g1
 subst ho0
 have hmx:(1000000:Nat)≤maxLen:=by decide
 refine (hsorted b l.cb es'.size _ w hblk hcellw hown (by rw[hsize];omega) (by rw[hsize];omega)).mono fun e w' ⟨v,zs,h1,h2,h3,h4,h5⟩=>?_
 have hz:zs.mergeSort (fun x y=>decide (x≤y))=sortB leS ss:=sortS_eq (h2.trans hks)
 rw[hz] at h3
 have hl:=(qrq leS ss).length_eq
 have hzl:zs.length=ss.length:=(h2.trans hks).length_eq
 have R':=R.below (Nat.le_refl _) h5
 split at h
 ·rename_i hnil
  simp only[Option.some.injEq,Prod.mk.injEq] at h
  obtain⟨rfl,rfl⟩:=h
  rw[hnil] at hl
  have:zs=[]:=List.eq_nil_of_length_eq_zero (by rw[hzl,←hl];rfl)
  exact⟨v,m,h1,Mu.le_refl m,R',by rw[h4.2 this];simp[cvo]⟩
 ·rename_i x xs hcons
  simp only[Option.some.injEq,Prod.mk.injEq] at h
  obtain⟨rfl,rfl⟩:=h
  rw[hcons] at h3 hl
  rcases h3.2 with ⟨_,hz0⟩|⟨g,cap,cur,rfl,q1,q2,q3,q4,q5,q6⟩
  ·rw[hzl,←hl] at hz0;cases hz0
  ·have hn:zs.length=xs.length+1:=by rw[hzl,←hl];rfl
   have hmap:∀ (zs:List (List UInt8)),cvos m (zs.map AV.str)=some (zs.map encStr):=fun zs=>by
    induction zs with
    | nil=>rfl
    | cons z zs ih=>simp only[List.map_cons,cvos,cvo,ih,encStr]
   have hFn:F g=none:=by
    cases hf:F g with
    | none=>rfl
    | some ob=>
     have:=(Array.getElem?_eq_some_iff.1 (R.keep g ob hf)).1
     omega
   obtain⟨a1,a2⟩:=R'.adopt q2 hFn (fun f' v' l' hl'=>by have:=(R.dom f' v' l' hl').2;omega) (hmap (x::xs)) (cap:=cap) (sz:=1) (fun j y hj=>by
     have hq:=q6
     have hj2:(cur.toList.take (zs.length*1))[j]?=some y:=by rw[hq];exact hj
     rw[List.getElem?_take] at hj2
     split at hj2
     ·simpa using hj2
     ·cases hj2) (by omega) (by simp;omega) rfl
   refine⟨_,_,h1,a2,a1,?_⟩
   simp only[cvo,Mu.add,plc]
   simp
   omega
end
end Go.AM
