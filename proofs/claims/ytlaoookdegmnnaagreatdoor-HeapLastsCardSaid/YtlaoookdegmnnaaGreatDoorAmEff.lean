/- The abstract machine: operations that write. -/
import Derived.Test.YtlaoookdegmnnaaGreatDoorAmPure2
import Derived.Lib.ConvBytes
import Derived.Laws.MakeOwn
import Derived.Laws.BytesArg
import Derived.Deep.Upon
set_option linter.unusedVariables false
set_option linter.unusedSimpArgs false
namespace Go.AM
section
variable {P:Program} {M0:Mu} {m:Mu} {n:Nat} {E:Env} {a:Act}

theorem foldA_min {k:IntKind}:∀ {l:List AV} {z:Int} {ys:List Value} {r:AV},cvos m l=some ys→foldA min2 (.int k z) l=some r→∀ w,∃ c,(ys.foldlM Builtin.min2 (.int k z)).run P w=.ok c w∧cvo m r=some c
 | [],z,ys,r,hc,h,w=>by simp[cvos] at hc;subst hc;simp[foldA] at h;subst h;exact⟨_,rfl,rfl⟩
 | x::l,z,ys,r,hc,h,w=>by
  simp only[cvos] at hc
  split at hc
  ·rename_i y us hy hu
   cases hc
   simp only[foldA] at h
   split at h
   ·rename_i v hv
    cases x<;>simp[min2] at hv
    obtain⟨hk,rfl⟩:=hv
    simp[cvo] at hy;subst hy
    obtain⟨c,h1,h2⟩:=foldA_min (z:=_) hu h w
    refine⟨c,?_,h2⟩
    rw[List.foldlM_cons]
    simp only[Sem.run_bind]
    show ((Builtin.min2 _ _).run P w).andThen _=_
    simp only[Builtin.min2,Sem.run_pure,Result.andThen_ok]
    exact h1
   ·cases h
  ·cases hc
theorem foldA_max {k:IntKind}:∀ {l:List AV} {z:Int} {ys:List Value} {r:AV},cvos m l=some ys→foldA max2 (.int k z) l=some r→∀ w,∃ c,(ys.foldlM Builtin.max2 (.int k z)).run P w=.ok c w∧cvo m r=some c
 | [],z,ys,r,hc,h,w=>by simp[cvos] at hc;subst hc;simp[foldA] at h;subst h;exact⟨_,rfl,rfl⟩
 | x::l,z,ys,r,hc,h,w=>by
  simp only[cvos] at hc
  split at hc
  ·rename_i y us hy hu
   cases hc
   simp only[foldA] at h
   split at h
   ·rename_i v hv
    cases x<;>simp[max2] at hv
    obtain⟨hk,rfl⟩:=hv
    simp[cvo] at hy;subst hy
    obtain⟨c,h1,h2⟩:=foldA_max (z:=_) hu h w
    refine⟨c,?_,h2⟩
    rw[List.foldlM_cons]
    simp only[Sem.run_bind]
    show ((Builtin.max2 _ _).run P w).andThen _=_
    simp only[Builtin.max2,Sem.run_pure,Result.andThen_ok]
    exact h1
   ·cases h
  ·cases hc

theorem cutSlice_sound {x:AV} {cx:Value} {lo hi mx:Option Operand} {size:Nat} {r:AV} (e:EnvR M0 m n E a) (sx:slotR m x cx) (h:cutSliceOf size x (evo E lo) (evo E hi) (evo E mx)=some r) (isS:Bool) (w:World) :
  ∃ bs len cap l hh mm,cx=.slice bs len cap∧(Instr.sliceBounds isS len cap (lo.map a.eval) (hi.map a.eval) (mx.map a.eval)).run P w=.ok (l,hh,mm) w ∧
   cvo m r=some (.slice (if mm=l then bs else bs.map (·.add (l*size))) (hh - l) (mm - l)):=by
 unfold cutSliceOf at h
 split at h
 ·-- a nil slice
  rename_i po len cap q
  have hx:=sx.cv (by simp)
  simp only[cvo] at hx
  split at hx
  ·rename_i hz
   obtain⟨rfl,rfl⟩:=hz
   have hcx:∃ bs,cx=.slice bs 0 0:=by
    split at hx
    ·cases hx;exact⟨none,rfl⟩
    ·simp only[Option.map_eq_some_iff] at hx;obtain⟨b,_,rfl⟩:=hx;exact⟨some b,rfl⟩
   obtain⟨bs,rfl⟩:=hcx
   split at h
   ·cases h
   ·rename_i hmx
    have hmn:mx=none:=by cases mx<;>simp[evo] at hmx ⊢
    subst hmn
    split at h
    ·cases h
    ·rename_i hh hhi
     split at h
     ·cases h
     ·rename_i l hlo
      cases h
      obtain⟨h1,h2,h3,h4⟩:=bounds_sound (P:=P) (mx:=none) (cap:=0) (mm:=0) e rfl hhi hlo (by simp[evo]) isS w
      have hh0:hh=0:=by
       cases hi with
       | none=>simp[evo,boundHi] at hhi;omega
       | some y=>have:=h4 rfl;omega
      subst hh0
      have:l=0:=by omega
      subst this
      refine⟨bs,0,0,0,0,0,rfl,h1,?_⟩
      simpa[cvo] using hx
  ·cases hx
 ·-- the capacity is known
  rename_i f v o po len cap
  have hx:=sx.cv (by simp)
  simp only[cvo] at hx
  split at hx
  ·rename_i hlc
   simp only[Option.map_eq_some_iff] at hx
   obtain⟨ad,hp,rfl⟩:=hx
   split at h
   ·cases h
   ·rename_i mm hm
    split at h
    ·cases h
    ·rename_i hh hhi
     split at h
     ·cases h
     ·rename_i l hlo
      split at h
      ·cases h
      ·rename_i hbad
       rw[not_or] at hbad
       cases h
       obtain⟨h1,h2,h3,h4⟩:=bounds_sound (P:=P) e hm hhi hlo hbad.1 isS w
       refine⟨some ad,len,cap,l,hh,mm,rfl,h1,?_⟩
       simp only[cvo]
       rw[if_pos (by omega)]
       by_cases hml:mm=l
       ·rw[if_pos hml,if_pos hml,hp];rfl
       ·rw[if_neg hml,if_neg hml,(plc_add hp (l*size)).1];rfl
  ·cases hx
 ·-- it is not known
  rename_i f v o po len skip q
  have hx:=sx.cv (by simp)
  simp only[cvo] at hx
  split at hx
  ·rename_i k hk
   split at hx
   ·rename_i hcond
    obtain⟨c1,c2,c3⟩:=hcond
    simp only[Option.map_eq_some_iff] at hx
    obtain⟨ad,hp,rfl⟩:=hx
    split at h
    ·-- with a bound for the capacity
     rename_i mv hmv
     split at h
     ·cases h
     ·rename_i mm hm
      split at h
      ·cases h
      ·rename_i hh hhi
       split at h
       ·cases h
       ·rename_i l hlo
        split at h
        ·cases h
        ·rename_i hbad
         rw[not_or,not_or] at hbad
         cases h
         have hm':boundMx (evo E mx) (k.cap - skip)=some mm:=by
          rw[hmv] at hm ⊢
          simp only[boundMx,bound?] at hm ⊢
          split at hm
          ·split at hm
           ·rename_i hz;cases hm;rw[if_pos (by omega)]
           ·cases hm
          ·cases hm
         obtain⟨h1,h2,h3,h4⟩:=bounds_sound (P:=P) e hm' hhi hlo (by rw[hmv];simpa using hbad.1) isS w
         refine⟨some ad,len,k.cap - skip,l,hh,mm,rfl,h1,?_⟩
         have hne:k.cap≠skip:=by omega
         rw[if_neg hne] at hp
         simp only[cvo]
         rw[if_pos (by omega)]
         by_cases hml:mm=l
         ·rw[if_pos hml,if_pos hml,hp];rfl
         ·rw[if_neg hml,if_neg hml,(plc_add hp (l*size)).1];rfl
    ·rename_i hmv
     have hmn:mx=none:=by cases mx<;>simp[evo] at hmv ⊢
     subst hmn
     split at h
     ·cases h
     ·rename_i hh hhi
      split at h
      ·cases h
      ·rename_i l hlo
       split at h
       ·rename_i hq
        cases h
        have hhi':boundHi (evo E hi) (k.cap - skip) len=some hh:=by
         cases hi with
         | none=>simpa[evo,boundHi] using hhi
         | some y=>
          simp only[evo,boundHi,bound?] at hhi ⊢
          split at hhi
          ·split at hhi
           ·rename_i hz;cases hhi;rw[if_pos (by omega)]
           ·cases hhi
          ·cases hhi
        obtain⟨h1,h2,h3,h4⟩:=bounds_sound (P:=P) (mx:=none) (cap:=k.cap - skip) (mm:=k.cap - skip) e rfl hhi' hlo (by simp[evo]) isS w
        have hhl:hh≤len:=by
         cases hi with
         | none=>simp[evo,boundHi] at hhi;omega
         | some y=>
          simp only[evo,boundHi] at hhi
          obtain⟨_,_,z⟩:=bound_sound (qcq e y) hhi;exact z
        refine⟨some ad,len,k.cap - skip,l,hh,k.cap - skip,rfl,h1,?_⟩
        simp only[cvo,hk]
        have hmul:(skip+l)*k.sz=skip*k.sz+l*k.sz:=Nat.add_mul _ _ _
        rw[if_pos ⟨by rw[hmul,c3,←hq];rw[c3] at c1;omega,by omega,c3⟩]
        have hcap:k.cap - (skip+l)=k.cap - skip - l:=by omega
        rw[hcap]
        by_cases hz:k.cap=skip+l
        ·rw[if_pos hz,if_pos (by omega:k.cap - skip=l)]
         by_cases hl0:l=0
         ·subst hl0
          rw[if_pos rfl]
          rw[if_pos (by omega)] at hp
          rw[hp];rfl
         ·rw[if_neg hl0]
          rw[if_neg (by omega)] at hp
          rw[hp];rfl
        ·rw[if_neg hz,if_neg (by omega:¬k.cap - skip=l)]
         rw[if_neg (by omega)] at hp
         rw[(plc_add hp (l*size)).1];rfl
       ·cases h
   ·cases hx
  ·cases hx
 ·cases h

theorem zeroCs_some {t:TypeId} {z:List AV} (h:zeroCs P t=some z):∃ i zv,P.info? t=some i∧i.zero=some zv∧zv.cells.toList.mapM constFlat=some z:=by
 unfold zeroCs at h
 split at h
 ·rename_i i hi
  split at h
  ·rename_i zv hz;exact⟨i,zv,hi,hz,h⟩
  ·cases h
 ·cases h

theorem fieldParts_spec {fields:Array Field}:∀ {parts:List (Nat × Operand)} {ap:List (Nat × Nat × Operand)},fieldPartsC P fields parts=some ap →
  (∀ (k:Nat) i x,parts[k]?=some (i,x)→∃ o s,ap[k]?=some (o,s,x)∧((fields.map fun f=>(f.offset,P.cellsOf f.type))[i]?)=some (o,s))∧ap.length=parts.length
 | [],ap,h=>by simp[fieldPartsC] at h;subst h;exact⟨fun _ _ _ h=>by simp at h,rfl⟩
 | (i,x)::l,ap,h=>by
  simp only[fieldPartsC] at h
  split at h
  ·rename_i f hf
   split at h
   ·rename_i s r hs hr
    cases h
    obtain⟨h1,h2⟩:=fieldParts_spec hr
    obtain⟨it,hi1,hi2⟩:=qxq hs
    refine⟨fun k j y hk=>?_,by simp[h2]⟩
    cases k with
    | zero=>simp at hk;obtain⟨rfl,rfl⟩:=hk;exact⟨f.offset,s,rfl,by simp[hf,Program.cellsOf,hi1,hi2]⟩
    | succ k=>exact h1 k j y (by simpa using hk)
   ·cases h
  ·cases h

theorem elemParts_spec (s:Nat):∀ (parts:List (Nat × Operand)),
  (∀ (k:Nat) i x,parts[k]?=some (i,x)→∃ o z,(elemParts s parts)[k]?=some (o,z,x)∧(fun i=>some (i*s,s)) i=some (o,z))∧(elemParts s parts).length=parts.length
 | []=>⟨fun _ _ _ h=>by simp at h,rfl⟩
 | (i,x)::l=>by
  obtain⟨h1,h2⟩:=elemParts_spec s l
  refine⟨fun k j y hk=>?_,by simp[elemParts,h2]⟩
  cases k with
  | zero=>simp at hk;obtain⟨rfl,rfl⟩:=hk;exact⟨i*s,s,rfl,rfl⟩
  | succ k=>exact h1 k j y (by simpa using hk)

theorem run_places (fields:Array Field) (w:World) (h:∀ f∈fields.toList,(P.info? f.type).isSome=true) :
  (fields.mapM fun f=>do pure (f.offset,←sizeOf f.type):Sem (Array (Nat × Nat))).run P w=.ok (fields.map fun f=>(f.offset,P.cellsOf f.type)) w:=by
 have key:∀ l:List Field,(∀ f∈l,(P.info? f.type).isSome=true)→(l.mapM fun f=>do pure (f.offset,←sizeOf f.type):Sem (List (Nat × Nat))).run P w=.ok (l.map fun f=>(f.offset,P.cellsOf f.type)) w:=by
  intro l
  induction l with
  | nil=>intro _;simp
  | cons f l ih=>
   intro hl
   obtain⟨i,hi⟩:=Option.isSome_iff_exists.1 (hl f (by simp))
   have:=ih (fun g hg=>hl g (by simp[hg]))
   rw[List.mapM_cons,List.map_cons]
   simp only[Sem.run_bind,run_sizeOf w hi,Result.andThen_ok,Sem.run_pure,this]
 have:=key fields.toList h
 rw[Array.mapM_eq_mapM_toList]
 simp only[Sem.run_map,this,Result.andThen_ok]
 congr 1
 apply Array.ext'
 simp

theorem pure_soundA {o:Oper} {ao:AOp} {v:AV} (hc:compOpA P o.op=some ao) (e:EnvR M0 m n E a) (hv:pureOf E ao=some v) (w:World):PureOk P m a o v w:=by
 obtain⟨dst,op,type,pos,after,guard⟩:=o
 dsimp only at hc
 cases op with
 | move x=>simp only[compOpA,Option.some.injEq] at hc;subst hc;simp only[pureOf,Option.some.injEq] at hv;subst hv;exact⟨_,rfl,qcq e x⟩
 | assign x=>simp only[compOpA,Option.some.injEq] at hc;subst hc;simp only[pureOf,Option.some.injEq] at hv;subst hv;exact⟨_,rfl,qcq e x⟩
 | pick c x y=>
  simp only[compOpA,Option.some.injEq] at hc;subst hc
  simp only[pureOf] at hv
  split at hv
  ·rename_i t ht
   cases hv
   have:=cvo_bool ht (qcq e c)
   refine⟨a.eval (bif t then x else y),?_,qcq e _⟩
   simp only[execOp,this]
   cases t<;>simp[asBool]
  ·cases hv
 | alloc t=>simp[compOpA,Option.map_eq_some_iff] at hc;obtain⟨z,_,rfl⟩:=hc;simp[pureOf] at hv
 | box t x=>simp only[compOpA,Option.some.injEq] at hc;subst hc;simp[pureOf] at hv
 | build t parts=>
  simp only[compOpA] at hc
  split at hc
  ·rename_i fields z hu hz
   split at hc
   rotate_left
   ·cases hc
   rename_i hall
   simp only[Option.map_eq_some_iff] at hc
   obtain⟨ap,hap,rfl⟩:=hc
   simp only[pureOf] at hv
   split at hv
   ·rename_i l hl
    cases hv
    obtain⟨i,zv,hi,hzv,hz'⟩:=zeroCs_some hz
    obtain⟨zs,h1,h2⟩:=fill_sound (place:=((fields.map fun f=>(f.offset,P.cellsOf f.type))[·]?)) (fieldParts_spec hap).1 (fieldParts_spec hap).2 e (mapM_const (m:=m) hz') hl
    refine⟨.agg zs.toArray,?_,.inr (by simp[cvo,h2])⟩
    have hpl:=run_places (P:=P) fields w (fun f hf=>(List.all_eq_true.1 hall) f hf)
    simp only[bind_pure_comp] at hpl
    simp only[Array.toArray_toList,Array.getElem?_map] at h1
    simp[execOp,Instr.build,zeroValue,typeInfo,hi,hzv,run_underlying hu,hpl,h1]
   ·cases hv
  ·rename_i k el z hu hz
   simp only[Option.map_eq_some_iff] at hc
   obtain⟨s,hs,rfl⟩:=hc
   simp only[pureOf] at hv
   split at hv
   ·rename_i l hl
    cases hv
    obtain⟨i,zv,hi,hzv,hz'⟩:=zeroCs_some hz
    obtain⟨it,hi1,hi2⟩:=qxq hs
    obtain⟨zs,h1,h2⟩:=fill_sound (place:=fun i=>some (i*s,s)) (elemParts_spec s parts.toList).1 (elemParts_spec s parts.toList).2 e (mapM_const (m:=m) hz') hl
    refine⟨.agg zs.toArray,?_,.inr (by simp[cvo,h2])⟩
    simp only[Array.toArray_toList] at h1
    simp[execOp,Instr.build,zeroValue,typeInfo,hi,hzv,run_underlying hu,sizeOf,hi1,hi2,h1]
   ·cases hv
  ·cases hc
 | buildSlice t k parts=>
  simp only[compOpA] at hc
  split at hc
  ·split at hc
   ·split at hc
    ·simp only[Option.some.injEq] at hc;subst hc;simp[pureOf] at hv
    ·cases hc
   ·cases hc
  ·cases hc
 | insert=>simp[compOpA] at hc
 | load t x=>
  simp only[compOpA] at hc
  split at hc
  ·simp only[Option.map_eq_some_iff] at hc;obtain⟨z,_,rfl⟩:=hc;simp[pureOf] at hv
  ·cases hc
 | store t x y=>simp[compOpA,Option.map_eq_some_iff] at hc;obtain⟨z,_,rfl⟩:=hc;simp[pureOf] at hv
 | ready=>simp[compOpA] at hc
 | waits=>simp[compOpA] at hc
 | nilCheck x=>
  simp only[compOpA,Option.some.injEq] at hc;subst hc
  simp only[pureOf] at hv
  split at hv
  ·rename_i p hp
   cases hv
   obtain⟨ad,h1,h2⟩:=ptr_sound hp (qcq e x)
   exact⟨.pointer (some ad),by simp[execOp,h2],.inr (by simp[cvo,h1])⟩
  ·cases hv
 | binOp op t x y yt=>
  have hbin:∀ hop:ao=.bin op x y,PureOk P m a ⟨dst,.binOp op t x y yt,type,pos,after,guard⟩ v w:=fun hop=>by
   subst hop
   simp only[pureOf] at hv
   obtain⟨c,h1,h2⟩:=bin_sound (P:=P) t (qcq e x) (qcq e y) hv w
   refine⟨c,?_,.inr h2⟩
   have hg:eqGuard op t x y (a.eval x) (a.eval y)=pure ():=by
    unfold binOf at hv
    split at hv
    ·rename_i k i j l hx hy
     rw[cvo_int hx (qcq e x)];cases op<;>rfl
    ·rename_i i j hx hy
     rw[cvo_str hx (qcq e x)];cases op<;>rfl
    ·cases hv
   simp[execOp,hg,h1]
  simp only[compOpA] at hc
  split at hc
  ·rename_i hop
   simp only[compEq] at hc
   split at hc
   ·rename_i hu
    simp only[Option.some.injEq] at hc;subst hc
    simp only[pureOf] at hv
    split at hv
    ·rename_i b c hb hcc
     cases hv
     have e1:=cvo_bool hb (qcq e x)
     have e2:=cvo_bool hcc (qcq e y)
     refine⟨.bool (bif op == .neq then !(b == c) else b == c),?_,.inr rfl⟩
     cases op<;>simp at hop<;>simp only[execOp,e1,e2,eqGuard,binOp]<;>simp[run_equal_bool w _ _ _ hu]<;>rfl
    ·cases hv
   ·exact hbin (by cases hc;rfl)
   ·exact hbin (by cases hc;rfl)
   ·split at hc
    ·simp only[Option.some.injEq] at hc;subst hc;simp[pureOf] at hv
    ·cases hc
   ·simp only[Option.some.injEq] at hc;subst hc;simp[pureOf] at hv
   ·simp only[Option.some.injEq] at hc;subst hc;simp[pureOf] at hv
   ·simp only[Option.some.injEq] at hc;subst hc;simp[pureOf] at hv
   ·split at hc<;>(simp only[Option.some.injEq] at hc;subst hc;simp[pureOf] at hv)
   ·cases hc
  ·exact hbin (by cases hc;rfl)
 | unOp op t x=>
  simp only[compOpA,Option.some.injEq] at hc;subst hc
  simp only[pureOf] at hv
  obtain⟨c,h1,h2⟩:=un_sound (P:=P) (qcq e x) hv w
  exact⟨c,by simp[execOp,h1],.inr h2⟩
 | convert src dst x=>
  simp only[compOpA] at hc
  split at hc
  ·rename_i k1 k2 h1 h2
   simp only[Option.some.injEq] at hc;subst hc
   simp only[pureOf] at hv
   split at hv
   ·rename_i k z hz
    cases hv
    have:=cvo_int hz (qcq e x)
    exact⟨.int k2 (k2.wrap z),by simp[execOp,convert,run_underlying h1,run_underlying h2,this,Conv.intToInt],.inr rfl⟩
   ·cases hv
  ·rename_i h1 h2
   simp only[Option.some.injEq] at hc;subst hc
   simp only[pureOf] at hv
   split at hv
   ·rename_i s hs
    cases hv
    have:=cvo_str hs (qcq e x)
    exact⟨.string ⟨s.toArray⟩,by simp[execOp,convert,run_underlying h1,run_underlying h2,this],.inr rfl⟩
   ·cases hv
  ·split at hc<;>cases hc;simp[pureOf] at hv
  ·split at hc<;>cases hc;simp[pureOf] at hv
  ·cases hc
 | sliceToArrayPointer=>simp[compOpA] at hc
 | makeInterface t x=>
  simp only[compOpA] at hc
  split at hc
  ·cases hc
  ·cases hc
  ·rename_i hni hnn
   simp only[Option.some.injEq] at hc;subst hc
   simp only[pureOf] at hv
   split at hv
   ·cases hv
   ·rename_i hb
    cases hv
    have hx:=(qcq e x).cv hb
    refine⟨.iface t (a.eval x),?_,.inr (by simp[cvo,hx])⟩
    cases hu:P.underlying t with
    | none=>exact absurd hu hnn
    | some d=>
     cases d<;>first
      | exact absurd hu (hni _)
      | simp[execOp,Instr.makeInterface,run_underlying hu]
 | makeFunc fn first captured=>
  simp only[compOpA,Option.some.injEq] at hc;subst hc
  simp only[pureOf] at hv
  cases hk:allKnown (evs E first.toList)&&allKnown (evs E captured.toList) with
  | false=>rw[hk] at hv;cases hv
  | true=>
   rw[hk] at hv;simp only[cond_true,Option.some.injEq] at hv;subst hv
   rw[Bool.and_eq_true] at hk
   refine⟨.func fn (first.map a.eval) (captured.map a.eval),by simp[execOp,Instr.makeFunc],.inr ?_⟩
   simp only[cvo,evs_sound e _ hk.1,evs_sound e _ hk.2,←List.map_toArray,Array.toArray_toList]
 | makeMap=>simp[compOpA] at hc
 | makeChan=>simp[compOpA] at hc
 | makeSlice t l c=>
  simp only[compOpA] at hc
  split at hc
  ·split at hc
   ·split at hc
    ·simp only[Option.some.injEq] at hc;subst hc;simp[pureOf] at hv
    ·cases hc
   ·cases hc
  ·cases hc
 | slice t x lo hi mx=>
  simp only[compOpA] at hc
  split at hc
  ·rename_i hu
   split at hc
   ·rename_i hmn
    have hmn:mx=none:=by simpa using hmn
    subst hmn
    simp only[Option.some.injEq] at hc;subst hc
    simp only[pureOf] at hv
    split at hv
    ·rename_i s hs
     split at hv
     ·rename_i hh hhi
      split at hv
      ·rename_i l hlo
       cases hv
       obtain⟨h1,h2,h3,h4⟩:=bounds_sound (P:=P) (mx:=none) (cap:=s.length) (mm:=s.length) e rfl hhi hlo (by simp[evo]) false w
       have hcs:=cvo_str hs (qcq e x)
       have hsz:(⟨s.toArray⟩:ByteArray).size=s.length:=by simp[ByteArray.size]
       refine⟨.string ((⟨s.toArray⟩:ByteArray).extract l hh),?_,.inr ?_⟩
       ·simp only[Option.map_none] at h1
        simp[execOp,Instr.sliceAt,run_underlying hu,Instr.slice,hcs,hsz,h1]
       ·simp only[cvo]
        congr 2
        apply ByteArray.ext
        simp[ByteArray.data_extract,List.extract_eq_take_drop,List.drop_take]
      ·cases hv
     ·cases hv
    ·cases hv
   ·cases hc
  ·rename_i el hu
   simp only[Option.map_eq_some_iff] at hc
   obtain⟨s,hs,rfl⟩:=hc
   simp only[pureOf] at hv
   obtain⟨bs,len,cap,l,hh,mm,h1,h2,h3⟩:=cutSlice_sound (P:=P) e (qcq e x) hv true w
   obtain⟨i,hi1,hi2⟩:=qxq hs
   refine⟨_,?_,.inr h3⟩
   simp[execOp,Instr.sliceAt,run_underlying hu,Instr.slice,h1,h2,sizeOf,typeInfo,hi1,hi2]
  ·rename_i k el hu
   simp only[Option.map_eq_some_iff] at hc
   obtain⟨s,hs,rfl⟩:=hc
   simp only[pureOf] at hv
   split at hv
   ·rename_i f vv o hp
    obtain⟨ad,h1,h2⟩:=ptr_sound hp (qcq e x)
    obtain⟨bs,len,cap,l,hh,mm,g1,g2,g3⟩:=cutSlice_sound (P:=P) (cx:=.slice (some ad) k k) e (.inr (by simp only[cvo];rw[if_pos (Nat.le_refl _),h1];rfl)) hv false w
    cases g1
    obtain⟨i,hi1,hi2⟩:=qxq hs
    refine⟨_,?_,.inr g3⟩
    simp[execOp,Instr.sliceAt,run_underlying hu,h2,Instr.sureAddr,g2,sizeOf,typeInfo,hi1,hi2]
    split<;>rfl
   ·cases hv
  ·cases hc
 | fieldAddr t x f=>
  simp only[compOpA] at hc
  split at hc
  ·rename_i fields hu
   split at hc
   ·rename_i fd hf
    split at hc
    ·rename_i k hk
     simp only[Option.some.injEq] at hc;subst hc
     simp only[pureOf] at hv
     split at hv
     ·rename_i p hp
      cases hv
      obtain⟨ad,h1,h2⟩:=ptr_sound hp (qcq e x)
      obtain⟨i,hi1,hi2⟩:=qxq hk
      refine⟨.pointer (some (ad.add fd.offset)),?_,.inr (addr_cvo h1 _)⟩
      simp[execOp,Instr.fieldAt,run_underlying hu,hf,h2,Instr.sureAddr,fieldPlace,sizeOf,typeInfo,hi1,hi2]
     ·cases hv
    ·cases hc
   ·cases hc
  ·cases hc
 | field t x f=>
  simp only[compOpA] at hc
  split at hc
  ·rename_i fields hu
   split at hc
   ·rename_i fd hf
    split at hc
    rotate_left
    ·cases hc
    rename_i hus
    simp only[Option.map_eq_some_iff] at hc
    obtain⟨s,hs,rfl⟩:=hc
    simp only[pureOf] at hv
    split at hv
    ·rename_i cs hcs
     obtain⟨ys,h1,h2⟩:=agg_sound hcs (qcq e x)
     obtain⟨i,hi1,hi2⟩:=qxq hs
     subst hi2
     obtain⟨d,hd⟩:=Option.isSome_iff_exists.1 hus
     obtain⟨c,g1,g2⟩:=part_sound hi1 hd h1 hv w
     exact⟨c,by simp[execOp,Instr.field,run_underlying hu,hf,h2,asAgg,g1],.inr g2⟩
    ·cases hv
   ·cases hc
  ·cases hc
 | indexAddr t x i=>
  simp only[compOpA] at hc
  split at hc
  ·rename_i el hu
   simp only[Option.map_eq_some_iff] at hc
   obtain⟨s,hs,rfl⟩:=hc
   simp only[pureOf] at hv
   split at hv
   ·rename_i p po len cap q hp
    split at hv
    ·rename_i j hj
     cases hv
     obtain⟨kk,h3,h4⟩:=index_sound (qcq e i) hj
     obtain⟨it,hi1,hi2⟩:=qxq hs
     obtain⟨bs,cap',g1,g2,g3,_⟩:=slice_sound hp (qcq e x)
     have g4:=g3 (by omega)
     refine⟨.pointer (some (bs.add (j*s))),?_,.inr (addr_cvo g4 _)⟩
     have hlt:¬len≤j:=by omega
     simp[execOp,Instr.indexAt,run_underlying hu,g1,h3,asIntOf,sizeOf,typeInfo,hi1,hi2,h4]
    ·cases hv
   ·cases hv
  ·rename_i k el hu
   simp only[Option.map_eq_some_iff] at hc
   obtain⟨s,hs,rfl⟩:=hc
   simp only[pureOf] at hv
   split at hv
   ·rename_i p hp
    split at hv
    ·rename_i j hj
     cases hv
     obtain⟨ad,h1,h2⟩:=ptr_sound hp (qcq e x)
     obtain⟨kk,h3,h4⟩:=index_sound (qcq e i) hj
     obtain⟨it,hi1,hi2⟩:=qxq hs
     refine⟨.pointer (some (ad.add (j*s))),?_,.inr (addr_cvo h1 _)⟩
     simp[execOp,Instr.indexAt,run_underlying hu,h2,h3,asIntOf,Instr.sureAddr,sizeOf,typeInfo,hi1,hi2,h4]
    ·cases hv
   ·cases hv
  ·cases hc
 | index t x i=>
  simp only[compOpA] at hc
  split at hc
  ·rename_i hu
   simp only[Option.some.injEq] at hc;subst hc
   simp only[pureOf] at hv
   split at hv
   ·rename_i s hs
    split at hv
    ·rename_i j hj
     split at hv
     ·rename_i b hb
      cases hv
      have hcs:=cvo_str hs (qcq e x)
      obtain⟨kk,h3,h4⟩:=index_sound (qcq e i) hj
      refine⟨.int .u8 b.toNat,?_,.inr rfl⟩
      have h0:(0:Int)≤(j:Int):=by omega
      have hg:(⟨s.toArray⟩:ByteArray)[j]?=some b:=by
       have hj2:j<s.length:=by omega
       rw[List.getElem?_eq_getElem hj2] at hb
       have hj3:j<(⟨s.toArray⟩:ByteArray).size:=by simpa[ByteArray.size] using hj2
       rw[getElem?_pos (⟨s.toArray⟩:ByteArray) j hj3,←hb]
       rfl
      simp[execOp,Instr.index,run_underlying hu,hcs,h3,asIntOf,h0,hg]
     ·cases hv
    ·cases hv
   ·cases hv
  ·rename_i k el hu
   split at hc
   rotate_left
   ·cases hc
   rename_i hus
   simp only[Option.map_eq_some_iff] at hc
   obtain⟨s,hs,rfl⟩:=hc
   simp only[pureOf] at hv
   split at hv
   ·rename_i cs hcs
    split at hv
    ·rename_i j hj
     obtain⟨ys,h1,h2⟩:=agg_sound hcs (qcq e x)
     obtain⟨kk,h3,h4⟩:=index_sound (qcq e i) hj
     obtain⟨it,hi1,hi2⟩:=qxq hs
     subst hi2
     obtain⟨d,hd⟩:=Option.isSome_iff_exists.1 hus
     obtain⟨c,g1,g2⟩:=part_sound hi1 hd h1 hv w
     have hlt:(0:Int)≤(j:Int)∧(j:Int)<(k:Int):=by omega
     exact⟨c,by simp[execOp,Instr.index,run_underlying hu,h2,h3,asIntOf,sizeOf,typeInfo,hi1,h4,g1],.inr g2⟩
    ·cases hv
   ·cases hv
  ·cases hc
 | lookup=>simp[compOpA] at hc
 | mapUpdate=>simp[compOpA] at hc
 | mapEntry=>simp[compOpA] at hc
 | entryStore=>simp[compOpA] at hc
 | range=>simp[compOpA] at hc
 | next=>simp[compOpA] at hc
 | entry=>simp[compOpA] at hc
 | typeAssert=>simp[compOpA] at hc
 | extract t i=>
  simp only[compOpA,Option.some.injEq] at hc;subst hc
  simp only[pureOf] at hv
  split at hv
  ·rename_i vs hvs
   have hx:=qcq e t
   rw[hvs] at hx
   have:=hx.cv (by simp)
   simp only[cvo,Option.map_eq_some_iff] at this
   obtain⟨ys,h1,h2⟩:=this
   obtain⟨y,h3,h4⟩:=cvos_get h1 hv
   exact⟨y,by simp[execOp,Instr.extract,←h2,h4],.inr h3⟩
  ·cases hv
 | call c=>
  obtain⟨callee,args,argTypes⟩:=c
  simp only[compOpA] at hc
  split at hc
  ·-- len
   split at hc
   ·rename_i x hx hu
    cases hc
    simp only[pureOf] at hv
    have ha:args=#[x]:=by apply Array.ext';simpa using hx
    subst ha
    obtain⟨t0,ht0,hu⟩:=Option.bind_eq_some_iff.1 hu
    split at hv
    ·rename_i s hs
     cases hv
     have:=cvo_str hs (qcq e x)
     have hsz:(⟨s.toArray⟩:ByteArray).size=s.length:=List.size_toArray ..
     exact⟨.int .i64 s.length,by simp[execOp,resolve,invoke,builtin,Builtin.len_,ht0,run_underlying hu,this,goInt,hsz],.inr rfl⟩
    ·cases hv
   ·rename_i x el hx hu
    cases hc
    simp only[pureOf] at hv
    have ha:args=#[x]:=by apply Array.ext';simpa using hx
    subst ha
    obtain⟨t0,ht0,hu⟩:=Option.bind_eq_some_iff.1 hu
    split at hv
    ·rename_i p po len cap q hs
     cases hv
     have hcx:∃ bs cap',a.eval x=.slice bs len cap':=by
      cases p with
      | none=>
       have h2:=(qcq e x).cv (by rw[hs];simp)
       rw[hs] at h2
       simp only[cvo] at h2
       split at h2
       ·rename_i hz
        split at h2
        ·exact⟨none,0,by rw[hz.1];exact (Option.some.inj h2).symm⟩
        ·simp only[Option.map_eq_some_iff] at h2
         obtain⟨b,_,h3⟩:=h2
         exact⟨some b,0,by rw[hz.1];exact h3.symm⟩
       ·cases h2
      | some p=>obtain⟨bs,cap',g1,_⟩:=slice_sound hs (qcq e x);exact⟨some bs,cap',g1⟩
     obtain⟨bs,cap',g1⟩:=hcx
     exact⟨.int .i64 len,by simp[execOp,resolve,invoke,builtin,Builtin.len_,ht0,run_underlying hu,g1,goInt],.inr rfl⟩
    ·cases hv
   ·rename_i x k el hx hu
    cases hc
    simp only[pureOf] at hv
    cases hv
    have ha:args=#[x]:=by apply Array.ext';simpa using hx
    subst ha
    obtain⟨t0,ht0,hu⟩:=Option.bind_eq_some_iff.1 hu
    exact⟨.int .i64 k,by simp[execOp,resolve,invoke,builtin,Builtin.len_,ht0,run_underlying hu,goInt],.inr rfl⟩
   ·cases hc
  ·-- append
   split at hc
   ·split at hc
    ·split at hc
     ·split at hc
      ·split at hc
       ·cases hc;simp[pureOf] at hv
       ·cases hc
      ·cases hc
     ·cases hc
    ·split at hc
     ·split at hc
      ·split at hc
       ·cases hc;simp[pureOf] at hv
       ·cases hc
      ·cases hc
     ·cases hc
    ·cases hc
   ·cases hc
  ·split at hc
   ·cases hc
   ·cases hc;simp[pureOf] at hv
  ·cases hc;simp[pureOf] at hv
  ·cases hc
 | go=>simp[compOpA] at hc
 | defer=>simp[compOpA] at hc
 | panic=>simp[compOpA] at hc
 | send=>simp[compOpA] at hc
 | recv=>simp[compOpA] at hc
 | select=>simp[compOpA] at hc
end

theorem bytesWorld_eq (w:World) (e:TypeId) (s:ByteArray):Lib.bytesWorld w e s=w.drew.alloc (.cells (Lib.bytesCells w e s) e ((Lib.bytesCells w e s).size,(Lib.bytesCells w e s).size+1)):=by
 unfold Lib.bytesWorld World.freeze
 rw[if_neg (by omega)]
 simp only[World.alloc,World.drew]
 congr 1
 apply Array.ext
 ·simp
 ·intro i h1 h2
  rw[Array.getElem_modify]
  simp only[Array.size_modify,Array.size_push] at h1
  by_cases hi:w.heap.size=i
  ·subst hi
   simp
  ·have:i<w.heap.size:=by omega
   rw[if_neg hi,Array.getElem_push_lt this,Array.getElem_push_lt this]

section
variable {P:Program} {M0:Mu} {m:Mu} {n:Nat} {E:Env} {a:Act}

def NewOk (P:Program) (m:Mu) (a:Act) (o:Oper) (cs:List AV) (sz:Nat) (md:Made) (w:World):Prop:=
 ∃ (w1:World) (C:Array Value) (el:TypeId) (fz:Nat × Nat) (cap:Nat) (ys:List Value) (c:Value),
  (w1=w∨w1=w.drew)∧(execOp a.eval o).run P w=.ok (.value c) (w1.alloc (.cells C el fz))∧cvos m cs=some ys∧(∀ (j:Nat) (y:Value),ys[j]?=some y→C[j]?=some y)∧cap*sz≤C.size∧cs.length≤cap*sz ∧
  (fz.1=fz.2∨(md.ver≠0∧C.size≤fz.1)) ∧
  ∀ (m':Mu) (f:Nat),m' f md.ver=some ⟨w.heap.size,0,0,cap,sz⟩→cvo m' (md.value f)=some c

theorem replicate_flat {z:List AV} {zs:List Value} (hz:cvos m z=some zs):∀ k,cvos m (List.replicate k z).flatten=some (List.replicate k zs).flatten
 | 0=>rfl
 | k+1=>by simp only[List.replicate_succ,List.flatten_cons];exact cvos_append hz (replicate_flat hz k)

theorem flatten_replicate_get (z:List Value) (k j:Nat):(List.replicate k z).flatten[j]?=if j<k*z.length then z[j % z.length]? else none:=by
 induction k generalizing j with
 | zero=>simp
 | succ k ih=>
  rw[List.replicate_succ,List.flatten_cons,List.getElem?_append]
  have e:(k+1)*z.length=k*z.length+z.length:=Nat.succ_mul _ _
  split
  ·rename_i h
   rw[if_pos (by omega),Nat.mod_eq_of_lt h]
  ·rename_i h
   rw[ih]
   split
   ·rename_i h2
    rw[if_pos (by omega)]
    rw[Nat.mod_eq_sub_mod (a:=j) (by omega)]
   ·rename_i h2
    rw[if_neg (by omega)]

theorem rangeCells (z:List Value) (k:Nat) (hz:z≠[]):(Array.range (k*z.length)).map (z.toArray[· % z.toArray.size]!)=(List.replicate k z).flatten.toArray:=by
 have hp:0<z.length:=List.length_pos_iff.2 hz
 apply Array.ext'
 apply List.ext_getElem?
 intro j
 rw[flatten_replicate_get]
 simp only[Array.toList_map,Array.toList_range,List.getElem?_map,List.size_toArray]
 by_cases hj:j<k*z.length
 ·rw[if_pos hj,List.getElem?_range hj]
  have:j % z.length<z.length:=Nat.mod_lt _ hp
  simp[this]
 ·rw[if_neg hj,List.getElem?_eq_none (by simp;omega)]
  rfl

theorem cvos_bytes (s:List UInt8):cvos m (s.map fun b=>AV.int .u8 b.toNat)=some (s.map fun b=>Value.int .u8 b.toNat):=by
 induction s with
 | nil=>rfl
 | cons b s ih=>simp[cvos,cvo,ih]

theorem new_soundA {o:Oper} {ao:AOp} {cs:List AV} {sz:Nat} {md:Made} (hc:compOpA P o.op=some ao) (e:EnvR M0 m n E a) (hv:newOf E ao=some (cs,sz,md)) (w:World):NewOk P m a o cs sz md w:=by
 obtain⟨dst,op,type,pos,after,guard⟩:=o
 dsimp only at hc
 cases op with
 | alloc t=>
  simp only[compOpA,Option.map_eq_some_iff] at hc
  obtain⟨z,hz,rfl⟩:=hc
  simp only[newOf,Option.some.injEq,Prod.mk.injEq] at hv
  obtain⟨rfl,rfl,rfl⟩:=hv
  obtain⟨i,zv,hi,hzv,hz'⟩:=zeroCs_some hz
  have hcv:=mapM_const (m:=m) hz'
  have hl:=qgq hcv
  refine⟨w,zv.cells,t,(0,0),z.length,zv.cells.toList,.pointer (some ⟨w.heap.size,0,none⟩),.inl rfl,?_,hcv,by simp,by simp at hl;omega,by omega,by simp,fun m' f hm=>by simp only[Made.ver] at hm;simp[Made.value,cvo,plc,hm]⟩
  simp[execOp,Instr.alloc,zeroValue,typeInfo,hi,hzv,newVar,newRow]
 | box t x=>
  simp only[compOpA,Option.some.injEq] at hc;subst hc
  simp only[newOf] at hv
  have key:∀ v,ev E x=v→v.isBot=false→some (v.cells,1,Made.ptr)=some (cs,sz,md)→NewOk P m a ⟨dst,.box t x,type,pos,after,guard⟩ cs sz md w:=fun v hx hb h=>by
   simp only[Option.some.injEq,Prod.mk.injEq] at h
   obtain⟨rfl,rfl,rfl⟩:=h
   obtain⟨us,h1,h2⟩:=cells_sound (qcq e x) (by rw[hx];exact hb)
   rw[hx] at h1
   have hl:=qgq h1
   refine⟨w,us.toArray,t,(0,0),us.length,us,.pointer (some ⟨w.heap.size,0,none⟩),.inl rfl,?_,h1,by simp,by simp,by omega,by simp,fun m' f hm=>by simp only[Made.ver] at hm;simp[Made.value,cvo,plc,hm]⟩
   simp[execOp,Instr.box,newVar,newRow,h2]
  split at hv
  ·cases hv
  ·cases hv
  ·rename_i v h1 h2
   refine key _ rfl ?_ hv
   cases hx:ev E x<;>first|rfl|exact absurd hx h1
 | buildSlice t k parts=>
  simp only[compOpA] at hc
  split at hc
  ·rename_i el hu
   split at hc
   ·rename_i s z hs hz
    split at hc
    ·rename_i hcond
     obtain⟨c1,c2,c3⟩:=hcond
     simp only[Option.some.injEq] at hc;subst hc
     simp only[newOf] at hv
     split at hv
     ·rename_i l hl
      simp only[Option.some.injEq,Prod.mk.injEq] at hv
      obtain⟨rfl,rfl,rfl⟩:=hv
      obtain⟨i,zv,hi,hzv,hz'⟩:=zeroCs_some hz
      obtain⟨it,hi1,hi2⟩:=qxq hs
      rw[hi] at hi1;cases hi1
      have hcv:=mapM_const (m:=m) hz'
      have hlen:=qgq hcv
      have hne:zv.cells.toList≠[]:=by intro h;rw[h] at hlen;simp at hlen;omega
      obtain⟨zs,h1,h2⟩:=fill_sound (place:=fun i=>some (i*s,s)) (elemParts_spec s parts.toList).1 (elemParts_spec s parts.toList).2 e (replicate_flat hcv k) hl
      have hll:l.length=k*s:=by
       have:=fillA_length hl
       rw[this];simp[c1]
      have hzl:=qgq h2
      have hcells:(Array.range (k*s)).map (zv.cells[· % zv.cells.size]!)=(List.replicate k zv.cells.toList).flatten.toArray:=by
       have:=rangeCells zv.cells.toList k hne
       rw[Array.toArray_toList,show zv.cells.toList.length=s by omega] at this
       exact this
      refine⟨w,zs.toArray,el,(0,0),k,zs,.slice (some ⟨w.heap.size,0,none⟩) k k,.inl rfl,?_,h2,by simp,by simp;omega,by omega,by simp,fun m' f hm=>by simp only[Made.ver] at hm;simp[Made.value,cvo,plc,hm]⟩
      have hgt:¬16777216<k*s:=by omega
      by_cases h0:k*s=0
      ·have hk0:k=0:=by rcases Nat.mul_eq_zero.1 h0 with h|h<;>omega
       subst hk0
       simp only[List.replicate_zero,List.flatten_nil] at h1
       simp[execOp,Instr.buildSlice,run_underlying hu,sizeOf,typeInfo,hi,hi2,hgt,Array.range_zero',h1,newRow]
      ·have h0':¬(k=0∨s=0):=by rw[←Nat.mul_eq_zero];exact h0
       simp only[Array.toArray_toList] at h1
       simp[execOp,Instr.buildSlice,run_underlying hu,sizeOf,typeInfo,hi,hi2,hgt,h0',zeroValue,hzv,newRow,hcells,h1]
       intro hz0;exact absurd hz0 h0
     ·cases hv
    ·cases hc
   ·cases hc
  ·cases hc
 | makeSlice t l c=>
  simp only[compOpA] at hc
  split at hc
  ·rename_i el hu
   split at hc
   ·rename_i i z hi hz
    split at hc
    ·rename_i hcond
     simp only[Option.some.injEq] at hc;subst hc
     simp only[newOf] at hv
     split at hv
     ·rename_i k1 l1 k2 c1 hl hcv
      split at hv
      ·rename_i hb
       obtain⟨b1,b2,b3,b4,b5⟩:=hb
       simp only[Option.some.injEq,Prod.mk.injEq] at hv
       obtain⟨rfl,rfl,rfl⟩:=hv
       obtain⟨i',zv,hi',hzv,hz'⟩:=zeroCs_some hz
       rw[hi] at hi';cases hi'
       have el1:=cvo_int hl (qcq e l)
       have el2:=cvo_int hcv (qcq e c)
       have hcvz:=mapM_const (m:=m) hz'
       have hlen:=qgq hcvz
       have hne:zv.cells.toList≠[]:=by intro h;rw[h] at hlen;simp at hlen;omega
       have hcells:madeCells zv.cells (c1.toNat*i.size)=(List.replicate c1.toNat zv.cells.toList).flatten.toArray:=by
        have:=rangeCells zv.cells.toList c1.toNat hne
        rw[Array.toArray_toList,show zv.cells.toList.length=i.size by omega] at this
        exact this
       have hr:=run_make (P:=P) w t el i zv hu hi hzv k1 k2 l1 c1 b1 b2 (by rw[Int.mul_comm];omega) (by omega)
       rw[hcells] at hr
       refine⟨w,_,el,(0,0),c1.toNat,_,_,.inl rfl,by simp only[execOp,el1,el2,Sem.run_bind,hr];rfl,replicate_flat hcvz c1.toNat,by simp,?_,?_,by simp,fun m' f hm=>?_⟩
       ·simp;rw[show zv.cells.size=i.size by simpa using (by omega:zv.cells.toList.length=i.size)];omega
       ·simp;rw[hcond.1];omega
       ·have hle:l1.toNat≤c1.toNat:=by omega
        simp only[Made.ver] at hm
        simp[Made.value,cvo,plc,hm,hle]
      ·cases hv
     ·cases hv
    ·cases hc
   ·cases hc
  ·cases hc
 | convert src dst x=>
  simp only[compOpA] at hc
  split at hc
  ·simp only[Option.some.injEq] at hc;subst hc;simp[newOf] at hv
  ·simp only[Option.some.injEq] at hc;subst hc;simp[newOf] at hv
  ·rename_i el h1 h2
   split at hc
   ·rename_i h3
    simp only[Option.some.injEq] at hc;subst hc
    simp only[newOf] at hv
    split at hv
    ·rename_i s hs
     split at hv
     ·rename_i hlen
      simp only[Option.some.injEq,Prod.mk.injEq] at hv
      obtain⟨rfl,rfl,rfl⟩:=hv
      have h3':=isU8_some h3
      have hcs:=cvo_str hs (qcq e x)
      have hr:=Lib.run_convert_string_bytes (P:=P) w src dst el ⟨s.toArray⟩ h1 h2 h3'
      rw[bytesWorld_eq] at hr
      have hsz:(⟨s.toArray⟩:ByteArray).size=s.length:=List.size_toArray ..
      have hcap:s.length≤grownCap w s.length 0 el:=by unfold grownCap;simp only[Question.cut];omega
      rw[hsz] at hr
      refine⟨w.drew,_,el,_,grownCap w s.length 0 el,_,_,.inr rfl,by simp only[execOp,hcs,Sem.run_bind,hr];rfl,cvos_bytes s,fun j y hy=>?_,?_,by simp;omega,.inr ⟨by simp[Made.ver],Nat.le_refl _⟩,fun m' f hm=>?_⟩
      ·simp only[Lib.bytesCells]
       have hj:j<s.length:=by
        rcases Nat.lt_or_ge j s.length with h|h
        ·exact h
        ·rw[List.getElem?_eq_none (by simpa using h)] at hy;cases hy
       rw[Array.getElem?_append_left (by simpa using hj)]
       simpa using hy
      ·simp[Lib.bytesCells,hsz];omega
      ·simp only[Made.ver] at hm
       simp[Made.value,cvo,plc,hm,hcap]
     ·cases hv
    ·cases hv
   ·cases hc
  ·split at hc
   ·simp only[Option.some.injEq] at hc;subst hc;simp[newOf] at hv
   ·cases hc
  ·cases hc
 | _=>
  exfalso
  simp only[compOpA,compEq] at hc
  repeat' split at hc
  all_goals first
   | (cases hc;done)
   | (simp only[Option.some.injEq] at hc;subst hc;simp[newOf] at hv;done)
   | (simp only[Option.map_eq_some_iff] at hc;obtain⟨_,_,rfl⟩:=hc;simp[newOf] at hv;done)
end
section
variable {P:Program} {M0:Mu} {F:Fr} {m:Mu} {n:Nat} {E:Env} {a:Act} {A:St} {w:World}

def ReadOk (P:Program) (m:Mu) (a:Act) (o:Oper) (v:AV) (w:World):Prop:=∃ c,(execOp a.eval o).run P w=.ok (.value c) w∧cvo m v=some c

theorem textGo_spec:∀ {l:List AV} {s:List UInt8},textGo l=some s→∃ ns:List Int,l=ns.map (AV.int .u8)∧s=ns.map fun n=>UInt8.ofNat n.toNat
 | [],s,h=>by simp[textGo] at h;subst h;exact⟨[],rfl,rfl⟩
 | x::l,s,h=>by
  cases x with
  | int k z=>
   cases k with
   | u8=>
    simp only[textGo] at h
    split at h
    ·rename_i s' hs'
     cases h
     obtain⟨ns,h1,h2⟩:=textGo_spec hs'
     exact⟨z::ns,by simp[h1],by simp[h2]⟩
    ·cases h
   | _=>simp[textGo] at h
  | _=>simp[textGo] at h

theorem nilSlice_cases {p:Option Pl} {po len cap q:Nat} {x:AV} (h:x=.slice p po len cap q) {c:Value} (s:slotR m x c):∃ b l k,c=.slice b l k∧b.isNone=(p.isNone&&q == 0)∧(p=none→l=0):=by
 cases p with
 | none=>
  subst h
  have hx:=s.cv (by simp)
  simp only[cvo] at hx
  split at hx
  ·split at hx
   ·rename_i hq;cases hx;exact⟨none,0,0,rfl,by simp[hq],fun _=>rfl⟩
   ·rename_i hq
    simp only[Option.map_eq_some_iff] at hx
    obtain⟨b,_,rfl⟩:=hx
    exact⟨some b,0,0,rfl,by simp[hq],fun _=>rfl⟩
  ·cases hx
 | some p=>obtain⟨bs,cap',h1,_⟩:=slice_sound h s;exact⟨some bs,len,cap',h1,by simp,by simp⟩
theorem map_cases {p:Option Nat} {x:AV} (h:x=.map p) {c:Value} (s:slotR m x c):∃ b,c=.map b∧b.isNone=p.isNone:=by
 subst h
 have hx:=s.cv (by simp)
 cases p with
 | none=>simp only[cvo] at hx;cases hx;exact⟨none,rfl,rfl⟩
 | some p=>simp only[cvo,Option.map_eq_some_iff] at hx;obtain⟨l,_,rfl⟩:=hx;exact⟨some l.cb,rfl,rfl⟩
theorem func_cases {f:Fn} {l k:List AV} {x:AV} (h:x=.func f l k) {c:Value} (s:slotR m x c):∃ l' k',c=.func f l' k':=by
 subst h
 have hx:=s.cv (by simp)
 simp only[cvo] at hx
 split at hx
 ·cases hx;exact⟨_,_,rfl⟩
 ·cases hx
theorem qBq {t:TypeId} {u:AV} {x:AV} (h:x=.iface t u) {c:Value} (s:slotR m x c):∃ y,c=.iface t y∧cvo m u=some y:=by
 subst h
 have hx:=s.cv (by simp)
 simp only[cvo,Option.map_eq_some_iff] at hx
 obtain⟨y,h1,h2⟩:=hx
 exact⟨y,h2.symm,h1⟩
theorem qlq {x:AV} (h:x=.nilIface) {c:Value} (s:slotR m x c):c=.nilIface:=by
 subst h;have:=s.cv (by simp);simp[cvo] at this;exact this.symm
theorem nilFunc_cases {x:AV} (h:x=.nilFunc) {c:Value} (s:slotR m x c):c=.nilFunc:=by
 subst h;have:=s.cv (by simp);simp[cvo] at this;exact this.symm
theorem ptr_cases {p:Option Pl} {x:AV} (h:x=.ptr p) {c:Value} (s:slotR m x c):∃ b,c=.pointer b∧b.isNone=p.isNone:=by
 cases p with
 | none=>subst h;have:=s.cv (by simp);simp[cvo] at this;exact⟨none,this.symm,rfl⟩
 | some p=>obtain⟨ad,_,h2⟩:=ptr_sound h s;exact⟨some ad,h2,rfl⟩

def EqFits (P:Program) (t:TypeId):EqK→Prop
 | .ptr=>∃ e i k,P.underlying t=some (.pointer e)∧P.info? e=some i∧i.size=k+1
 | .nilSlice=>∃ e,P.underlying t=some (.slice e)
 | .nilMap=>∃ k e,P.underlying t=some (.map k e)
 | .nilFunc=>∃ a b c,P.underlying t=some (.func a b c)
 | .iface _=>∃ ms,P.underlying t=some (.interface ms)
 | .dyn ps=>(∃ ms,P.underlying t=some (.interface ms))∧∀ q∈ps,∃ e i k j,P.underlying q=some (.pointer e)∧P.info? e=some i∧i.size=k+1∧P.info? q=some j∧j.comparable=true

theorem eqIn_sound {k:EqK} {x y:AV} {cx cy:Value} {b:Bool} (sx:slotR m x cx) (sy:slotR m y cy) {t:TypeId} (hf:EqFits P t k) (h:eqOf k x y=some b) (d:Nat) (w:World):(Op.equalIn (d+1) t cx cy).run P w=.ok b w:=by
 unfold eqOf at h
 split at h
 ·obtain⟨e,i,z,hu,hi,hs⟩:=hf
  obtain⟨b1,rfl,g1⟩:=ptr_cases rfl sx;obtain⟨b2,rfl,g2⟩:=ptr_cases rfl sy
  cases h
  have:b1=none:=by simpa using g1
  subst this
  simp[Op.equalIn,run_underlying hu,g2]
 ·rename_i p _
  obtain⟨e,i,z,hu,hi,hs⟩:=hf
  obtain⟨b1,rfl,g1⟩:=ptr_cases rfl sx;obtain⟨b2,rfl,g2⟩:=ptr_cases rfl sy
  cases h
  have:b2=none:=by simpa using g2
  subst this
  cases p with
  | none=>simp_all
  | some p=>
   cases b1 with
   | none=>simp at g1
   | some b1=>simp[Op.equalIn,run_underlying hu]
 ·rename_i p q
  obtain⟨e,i,z,hu,hi,hs⟩:=hf
  obtain⟨a1,h1,rfl⟩:=ptr_sound rfl sx;obtain⟨a2,h2,rfl⟩:=ptr_sound rfl sy
  unfold samePlace at h
  split at h
  ·rename_i hpq
   cases h
   unfold plc at h1 h2
   rw[←hpq.1,←hpq.2] at h2
   split at h1
   ·rename_i l hl
    split at h1
    ·split at h2
     ·rename_i l' hl'
      rw[hl] at hl';cases hl'
      split at h2
      ·cases h1;cases h2
       have hbool:((⟨l.cb,l.co+(p.2.2 - l.lo),none⟩:Addr) == ⟨l.cb,l.co+(q.2.2 - l.lo),none⟩)=(p.2.2 == q.2.2):=by
        rw[Bool.eq_iff_iff];simp;omega
       simp[Op.equalIn,run_underlying hu,sizeOf,typeInfo,hi,hs,sameAddr,hbool]
      ·cases h2
     ·cases h2
    ·cases h1
   ·cases h1
  ·cases h
 ·obtain⟨e,hu⟩:=hf
  obtain⟨b1,l1,k1,rfl,g1,_⟩:=nilSlice_cases rfl sx;obtain⟨b2,l2,k2,rfl,g2,_⟩:=nilSlice_cases rfl sy
  split at h
  ·rename_i hn
   rw[hn] at g1
   have:b1=none:=by simpa using g1
   subst this
   cases h
   simp[Op.equalIn,run_underlying hu,g2]
  ·rename_i hn
   split at h
   ·rename_i hn2
    rw[hn2] at g2
    have:b2=none:=by simpa using g2
    subst this
    cases h
    cases b1 with
    | none=>simp at g1;simp[g1] at hn
    | some b1=>simp[Op.equalIn,run_underlying hu]
   ·cases h
 ·obtain⟨kt,e,hu⟩:=hf
  obtain⟨b1,rfl,g1⟩:=map_cases rfl sx;obtain⟨b2,rfl,g2⟩:=map_cases rfl sy
  cases h
  have:b1=none:=by simpa using g1
  subst this
  simp[Op.equalIn,run_underlying hu,g2]
 ·rename_i p _
  obtain⟨kt,e,hu⟩:=hf
  obtain⟨b1,rfl,g1⟩:=map_cases rfl sx;obtain⟨b2,rfl,g2⟩:=map_cases rfl sy
  cases h
  have:b2=none:=by simpa using g2
  subst this
  cases p with
  | none=>simp_all
  | some p=>
   cases b1 with
   | none=>simp at g1
   | some b1=>simp[Op.equalIn,run_underlying hu]
 ·obtain⟨_,_,_,hu⟩:=hf
  cases nilFunc_cases rfl sx;cases nilFunc_cases rfl sy;cases h
  simp[Op.equalIn,run_underlying hu]
 ·obtain⟨_,_,_,hu⟩:=hf
  cases nilFunc_cases rfl sx;obtain⟨_,_,rfl⟩:=func_cases rfl sy;cases h
  simp[Op.equalIn,run_underlying hu]
 ·obtain⟨_,_,_,hu⟩:=hf
  cases nilFunc_cases rfl sy;obtain⟨_,_,rfl⟩:=func_cases rfl sx;cases h
  simp[Op.equalIn,run_underlying hu]
 ·obtain⟨_,hu⟩:=hf
  cases qlq rfl sx;obtain⟨_,rfl,_⟩:=qBq rfl sy;cases h
  simp[Op.equalIn,run_underlying hu]
 ·obtain⟨_,hu⟩:=hf
  cases qlq rfl sy;obtain⟨_,rfl,_⟩:=qBq rfl sx;cases h
  simp[Op.equalIn,run_underlying hu]
 ·rename_i e
  obtain⟨_,hu⟩:=hf
  cases qlq rfl sx;cases qlq rfl sy
  cases e<;>cases h
  simp[Op.equalIn,run_underlying hu]
 ·obtain⟨_,hu⟩:=hf
  obtain⟨_,rfl,_⟩:=qBq rfl sx;obtain⟨_,rfl,_⟩:=qBq rfl sy
  split at h
  ·rename_i hne;cases h;simp[Op.equalIn,run_underlying hu,hne]
  ·cases h
 ·cases h

theorem eqGuard_sound {k:EqK} {x y:AV} {cx cy:Value} {b:Bool} (sx:slotR m x cx) (sy:slotR m y cy) (h:eqOf k x y=some b) {op:BinOp} {t:TypeId} {ox oy:Operand} (w:World)
  (hk:∀ e,k=.iface e→e=true→(∃ ms,P.underlying t=some (.interface ms)∧ms.isEmpty=true)∨isConstB ox=true∨isConstB oy=true):(eqGuard op t ox oy cx cy).run P w=.ok () w:=by
 have easy:eqGuard op t ox oy cx cy=pure ()→(eqGuard op t ox oy cx cy).run P w=.ok () w:=fun h=>by rw[h];rfl
 unfold eqOf at h
 split at h
 ·obtain⟨_,rfl,_⟩:=ptr_cases rfl sx;exact easy (by cases op<;>rfl)
 ·obtain⟨_,rfl,_⟩:=ptr_cases rfl sx;exact easy (by cases op<;>rfl)
 ·obtain⟨_,rfl,_⟩:=ptr_cases rfl sx;exact easy (by cases op<;>rfl)
 ·obtain⟨_,_,_,rfl,_⟩:=nilSlice_cases rfl sx;exact easy (by cases op<;>rfl)
 ·obtain⟨_,rfl,_⟩:=map_cases rfl sx;exact easy (by cases op<;>rfl)
 ·obtain⟨_,rfl,_⟩:=map_cases rfl sx;exact easy (by cases op<;>rfl)
 ·cases nilFunc_cases rfl sx;exact easy (by cases op<;>rfl)
 ·cases nilFunc_cases rfl sx;exact easy (by cases op<;>rfl)
 ·obtain⟨_,_,rfl⟩:=func_cases rfl sx;exact easy (by cases op<;>rfl)
 ·cases qlq rfl sx;obtain⟨_,rfl,_⟩:=qBq rfl sy;exact easy (by cases op<;>rfl)
 ·obtain⟨_,rfl,_⟩:=qBq rfl sx;exact easy (by cases op<;>rfl)
 ·rename_i e
  cases qlq rfl sx;cases qlq rfl sy
  cases e with
  | false=>cases h
  | true=>
   rcases hk true rfl rfl with ⟨ms,hu,hm⟩|hx|hy
   ·have hin:∀ d,(Op.eqGuardIn (d+1) t .nilIface .nilIface).run P w=.ok false w:=fun d=>by simp[Op.eqGuardIn,run_underlying hu,hm]
    have:(Op.eqGuardIn Op.maxDepth t .nilIface .nilIface).run P w=.ok false w:=hin 9999
    cases op<;>simp[eqGuard,this]<;>split<;>first|rfl|simp[this]
   ·cases ox<;>simp[isConstB] at hx;exact easy (by cases op<;>rfl)
   ·cases oy<;>simp[isConstB] at hy;exact easy (by cases op<;>cases ox<;>rfl)
 ·obtain⟨_,rfl,_⟩:=qBq rfl sx;exact easy (by cases op<;>rfl)
 ·cases h

theorem eqOp_sound {k:EqK} {x y:AV} {cx cy:Value} {b:Bool} (sx:slotR m x cx) (sy:slotR m y cy) (h:eqOf k x y=some b) {t:TypeId} (hf:EqFits P t k) {op:BinOp} (hop:op=.eql∨op=.neq) (w:World) :
  (binOp op t cx cy).run P w=.ok (.bool (bif op == .neq then !b else b)) w:=by
 have he:(Op.equal t cx cy).run P w=.ok b w:=eqIn_sound sx sy hf h 9999 w
 unfold eqOf at h
 have fin:binOp .eql t cx cy=(do pure (.bool (←Op.equal t cx cy)))→binOp .neq t cx cy=(do pure (.bool (!(←Op.equal t cx cy))))→(binOp op t cx cy).run P w=.ok (.bool (bif op == .neq then !b else b)) w:=fun h1 h2=>by
  rcases hop with rfl|rfl
  ·rw[h1];simp only[Sem.run_bind,he,Result.andThen_ok,Sem.run_pure];rfl
  ·rw[h2];simp only[Sem.run_bind,he,Result.andThen_ok,Sem.run_pure];rfl
 split at h
 ·obtain⟨_,rfl,_⟩:=ptr_cases rfl sx;obtain⟨_,rfl,_⟩:=ptr_cases rfl sy;exact fin rfl rfl
 ·obtain⟨_,rfl,_⟩:=ptr_cases rfl sx;obtain⟨_,rfl,_⟩:=ptr_cases rfl sy;exact fin rfl rfl
 ·obtain⟨_,rfl,_⟩:=ptr_cases rfl sx;obtain⟨_,rfl,_⟩:=ptr_cases rfl sy;exact fin rfl rfl
 ·obtain⟨_,_,_,rfl,_⟩:=nilSlice_cases rfl sx;obtain⟨_,_,_,rfl,_⟩:=nilSlice_cases rfl sy;exact fin rfl rfl
 ·obtain⟨_,rfl,_⟩:=map_cases rfl sx;obtain⟨_,rfl,_⟩:=map_cases rfl sy;exact fin rfl rfl
 ·obtain⟨_,rfl,_⟩:=map_cases rfl sx;obtain⟨_,rfl,_⟩:=map_cases rfl sy;exact fin rfl rfl
 ·cases nilFunc_cases rfl sx;cases nilFunc_cases rfl sy;exact fin rfl rfl
 ·cases nilFunc_cases rfl sx;obtain⟨_,_,rfl⟩:=func_cases rfl sy;exact fin rfl rfl
 ·obtain⟨_,_,rfl⟩:=func_cases rfl sx;cases nilFunc_cases rfl sy;exact fin rfl rfl
 ·cases qlq rfl sx;obtain⟨_,rfl,_⟩:=qBq rfl sy;exact fin rfl rfl
 ·obtain⟨_,rfl,_⟩:=qBq rfl sx;cases qlq rfl sy;exact fin rfl rfl
 ·cases qlq rfl sx;cases qlq rfl sy;exact fin rfl rfl
 ·obtain⟨_,rfl,_⟩:=qBq rfl sx;obtain⟨_,rfl,_⟩:=qBq rfl sy;exact fin rfl rfl
 ·cases h

theorem ptrTypes_spec {q:TypeId} (h:q∈ptrTypes P):∃ e i k j,P.underlying q=some (.pointer e)∧P.info? e=some i∧i.size=k+1∧P.info? q=some j∧j.comparable=true:=by
 obtain⟨_,h⟩:=List.mem_filter.1 h
 simp only[Bool.and_eq_true] at h
 obtain⟨h1,h2⟩:=h
 unfold ptrOk at h1
 split at h1
 ·rename_i e hu
  split at h1
  ·rename_i k hs
   obtain⟨i,hi1,hi2⟩:=qxq hs
   split at h2
   ·rename_i j hj
    simp only[Bool.and_eq_true] at h2
    exact⟨e,i,k,j,hu,hi1,hi2,hj,h2.2⟩
   ·cases h2
  ·cases h1
 ·cases h1
theorem far_addr {F:Fr} {A:St} {w:World} (R:Rel F m A w) {p q:Pl} {a b:Addr} (hp:plc m p=some a) (hq:plc m q=some b) (hne:p.1≠q.1) (hrp:A.Rw p.1) (hrq:A.Rw q.1) (cp:∃ c e z,w.heap[a.block]?=some (.cells c e z)) (cq:∃ c e z,w.heap[b.block]?=some (.cells c e z)) (vp:p.2.1=0) (vq:q.2.1=0) :
  (sameAddr a b).run P w=.ok false w:=by
 unfold plc at hp hq
 split at hp
 rotate_left
 ·cases hp
 rename_i l hl
 split at hp
 rotate_left
 ·cases hp
 split at hq
 rotate_left
 ·cases hq
 rename_i k hk
 split at hq
 rotate_left
 ·cases hq
 cases hp
 cases hq
 obtain⟨c1,e1,z1,g1⟩:=cp
 obtain⟨c2,e2,z2,g2⟩:=cq
 have hcb:=R.apart _ _ _ _ _ _ hl hk hne hrp
 rw[vp] at hl
 rw[vq] at hk
 have u1:z1.1=z1.2:=by
  rcases R.unf _ _ _ hl hrp _ _ _ g1 with h|⟨h,_⟩
  ·exact h
  ·exact absurd rfl h
 have u2:z2.1=z2.2:=by
  rcases R.unf _ _ _ hk hrq _ _ _ g2 with h|⟨h,_⟩
  ·exact h
  ·exact absurd rfl h
 obtain⟨x1,y1⟩:=z1
 obtain⟨x2,y2⟩:=z2
 simp only at u1 u2
 subst u1
 subst u2
 have hbl:(l.cb == k.cb)=false:=by simpa using hcb
 simp only at g1 g2
 have no:∀ x y:Nat,(decide (x≤y)&&decide (y<x))=false:=fun x y=>by
  rw[Bool.and_eq_false_iff,decide_eq_false_iff_not,decide_eq_false_iff_not];omega
 simp[sameAddr,hbl,World.frozen?,g1,g2,noView,viewAt,World.shape?,mayBeOne,stringish,no]
theorem rwB_spec {F:Fr} {A:St} {w:World} (R:Rel F m A w) {f:Nat} (h:rwB A f=true):A.Rw f:=by
 unfold rwB at h
 split at h
 ·rename_i cs vers nv hg;exact⟨_,hg,rfl⟩
 ·cases h
theorem samePlace_spec {p q:Pl} {a1 a2:Addr} {b:Bool} (h1:plc m p=some a1) (h2:plc m q=some a2) (h:samePlace p q=some b) (w:World):(sameAddr a1 a2).run P w=.ok b w:=by
 unfold samePlace at h
 split at h
 ·rename_i hpq
  cases h
  unfold plc at h1 h2
  rw[←hpq.1,←hpq.2] at h2
  split at h1
  ·rename_i l hl
   split at h1
   ·split at h2
    ·rename_i l' hl'
     rw[hl] at hl';cases hl'
     split at h2
     ·cases h1;cases h2
      have hbool:((⟨l.cb,l.co+(p.2.2 - l.lo),none⟩:Addr) == ⟨l.cb,l.co+(q.2.2 - l.lo),none⟩)=(p.2.2 == q.2.2):=by
       rw[Bool.eq_iff_iff];simp;omega
      simp[sameAddr,hbool]
     ·cases h2
    ·cases h2
   ·cases h1
  ·cases h1
 ·cases h
theorem far_sound {F:Fr} {A:St} {w:World} (R:Rel F m A w) {p q:Pl} {a1 a2:Addr} {b:Bool} (h1:plc m p=some a1) (h2:plc m q=some a2) (h:farPlace A p q=some b):(sameAddr a1 a2).run P w=.ok b w:=by
 unfold farPlace at h
 cases hb:Nat.beq p.1 q.1 with
 | true=>rw[hb] at h;exact samePlace_spec h1 h2 h w
 | false=>
  rw[hb] at h
  simp only[cond_false] at h
  cases hc:(rwB A p.1&&rwB A q.1)&&((Nat.beq p.2.1 0&&Nat.beq q.2.1 0)&&(knownAt A p&&knownAt A q)) with
  | false=>rw[hc] at h;cases h
  | true=>
   rw[hc] at h
   simp only[cond_true,Option.some.injEq] at h
   subst h
   simp only[Bool.and_eq_true] at hc
   obtain⟨⟨c1,c2⟩,⟨c3,c4⟩,c5,c6⟩:=hc
   have v1:=Nat.eq_of_beq_eq_true c3
   have v2:=Nat.eq_of_beq_eq_true c4
   have hne:p.1≠q.1:=fun e=>by rw[e,Nat.beq_refl] at hb;cases hb
   have blk:∀ {p:Pl} {a:Addr},plc m p=some a→knownAt A p=true→∃ c e z,w.heap[a.block]?=some (.cells c e z):=fun {p a} hp hk=>by
    unfold knownAt at hk
    split at hk
    ·rename_i l hl
     obtain⟨b,o,ys,g1,g2,g3,g4⟩:=R.cells hl
     rw[g1] at hp
     cases hp
     cases ys with
     | nil=>simp at g3
     | cons y ys=>
      have:=g4 0 y rfl
      simp only[World.cell?] at this
      split at this
      ·exact⟨_,_,_,by assumption⟩
      ·cases this
    ·cases hk
   exact far_addr R h1 h2 hne (rwB_spec R c1) (rwB_spec R c2) (blk h1 c5) (blk h2 c6) v1 v2
theorem eqFar_fin {cx cy:Value} {b:Bool} {t:TypeId} {op:BinOp} {ox oy:Operand} {w:World} (hop:op=.eql∨op=.neq) (he0:∀ d,(Op.equalIn (d+2) t cx cy).run P w=.ok b w) (h1:binOp .eql t cx cy=(do pure (.bool (←Op.equal t cx cy)))) (h2:binOp .neq t cx cy=(do pure (.bool (!(←Op.equal t cx cy))))) (hg:eqGuard op t ox oy cx cy=pure ()) :
  (eqGuard op t ox oy cx cy).run P w=.ok () w∧(binOp op t cx cy).run P w=.ok (.bool (bif op == .neq then !b else b)) w:=by
 have he:(Op.equal t cx cy).run P w=.ok b w:=he0 9998
 refine⟨by rw[hg];rfl,?_⟩
 rcases hop with rfl|rfl
 ·rw[h1];simp only[Sem.run_bind,he,Result.andThen_ok,Sem.run_pure];rfl
 ·rw[h2];simp only[Sem.run_bind,he,Result.andThen_ok,Sem.run_pure];rfl
theorem bin_pp (t:TypeId) (a b:Option Addr):binOp .eql t (.pointer a) (.pointer b)=(do pure (.bool (←Op.equal t (.pointer a) (.pointer b))))∧binOp .neq t (.pointer a) (.pointer b)=(do pure (.bool (!(←Op.equal t (.pointer a) (.pointer b))))):=⟨rfl,rfl⟩
theorem bin_ni (t:TypeId) (q:TypeId) (y:Value):binOp .eql t .nilIface (.iface q y)=(do pure (.bool (←Op.equal t .nilIface (.iface q y))))∧binOp .neq t .nilIface (.iface q y)=(do pure (.bool (!(←Op.equal t .nilIface (.iface q y))))):=⟨rfl,rfl⟩
theorem bin_in (t:TypeId) (q:TypeId) (y:Value):binOp .eql t (.iface q y) .nilIface=(do pure (.bool (←Op.equal t (.iface q y) .nilIface)))∧binOp .neq t (.iface q y) .nilIface=(do pure (.bool (!(←Op.equal t (.iface q y) .nilIface)))):=⟨rfl,rfl⟩
theorem bin_ii (t:TypeId) (p q:TypeId) (x y:Value):binOp .eql t (.iface p x) (.iface q y)=(do pure (.bool (←Op.equal t (.iface p x) (.iface q y))))∧binOp .neq t (.iface p x) (.iface q y)=(do pure (.bool (!(←Op.equal t (.iface p x) (.iface q y))))):=⟨rfl,rfl⟩
theorem guard_pp (op:BinOp) (t:TypeId) (ox oy:Operand) (a b:Option Addr):eqGuard op t ox oy (.pointer a) (.pointer b)=pure ():=by cases op<;>rfl
theorem guard_ni (op:BinOp) (t:TypeId) (ox oy:Operand) (q:TypeId) (y:Value):eqGuard op t ox oy .nilIface (.iface q y)=pure ():=by cases op<;>rfl
theorem guard_in (op:BinOp) (t:TypeId) (ox oy:Operand) (q:TypeId) (y:Value):eqGuard op t ox oy (.iface q y) .nilIface=pure ():=by cases op<;>rfl
theorem guard_ii (op:BinOp) (t:TypeId) (ox oy:Operand) (p q:TypeId) (x y:Value):eqGuard op t ox oy (.iface p x) (.iface q y)=pure ():=by cases op<;>rfl
theorem eqn_pp {t e:TypeId} {i:TypeInfo} {z:Nat} {a1 a2:Addr} {b:Bool} {w:World} (hu:P.underlying t=some (.pointer e)) (hi:P.info? e=some i) (hs:i.size=z+1) (hq:(sameAddr a1 a2).run P w=.ok b w) (d:Nat):(Op.equalIn (d+1) t (.pointer (some a1)) (.pointer (some a2))).run P w=.ok b w:=by
 simp[Op.equalIn,run_underlying hu,sizeOf,typeInfo,hi,hs,hq]
theorem eqn_ni {t q:TypeId} {y:Value} {ms:Array (String × TypeId)} {w:World} (hu:P.underlying t=some (.interface ms)) (d:Nat):(Op.equalIn (d+1) t .nilIface (.iface q y)).run P w=.ok false w:=by
 simp[Op.equalIn,run_underlying hu]
theorem eqn_in {t q:TypeId} {y:Value} {ms:Array (String × TypeId)} {w:World} (hu:P.underlying t=some (.interface ms)) (d:Nat):(Op.equalIn (d+1) t (.iface q y) .nilIface).run P w=.ok false w:=by
 simp[Op.equalIn,run_underlying hu]
theorem eqn_ne {t p q:TypeId} {x y:Value} {ms:Array (String × TypeId)} {w:World} (hu:P.underlying t=some (.interface ms)) (hne:p≠q) (d:Nat):(Op.equalIn (d+1) t (.iface p x) (.iface q y)).run P w=.ok false w:=by
 simp[Op.equalIn,run_underlying hu,hne]
theorem eqn_ii {t p:TypeId} {x y:Value} {ms:Array (String × TypeId)} {j:TypeInfo} {b:Bool} {w:World} {d:Nat} (hu:P.underlying t=some (.interface ms)) (hj:P.info? p=some j) (hc:j.comparable=true) (h:(Op.equalIn d p x y).run P w=.ok b w):(Op.equalIn (d+1) t (.iface p x) (.iface p y)).run P w=.ok b w:=by
 rw[Op.equalIn.eq_def]
 simp only[Sem.run_bind,run_underlying hu,Result.andThen_ok]
 simp[typeInfo,hj,hc,h]
theorem eqFar_sound {F:Fr} {A:St} {w:World} (R:Rel F m A w) {k:EqK} {x y:AV} {cx cy:Value} {b:Bool} (sx:slotR m x cx) (sy:slotR m y cy) {t:TypeId} (hf:EqFits P t k) (h:eqFar A k x y=some b) {op:BinOp} {ox oy:Operand} (hop:op=.eql∨op=.neq) :
  (eqGuard op t ox oy cx cy).run P w=.ok () w∧(binOp op t cx cy).run P w=.ok (.bool (bif op == .neq then !b else b)) w:=by
 unfold eqFar at h
 split at h
 ·obtain⟨e,i,z,hu,hi,hs⟩:=hf
  obtain⟨a1,h1,rfl⟩:=ptr_sound rfl sx;obtain⟨a2,h2,rfl⟩:=ptr_sound rfl sy
  have hq:=far_sound (P:=P) R h1 h2 h
  refine eqFar_fin hop (fun d=>?_) (bin_pp _ _ _).1 (bin_pp _ _ _).2 (guard_pp _ _ _ _ _ _)
  exact eqn_pp hu hi hs hq _
 ·obtain⟨⟨ms,hu⟩,_⟩:=hf
  cases qlq rfl sx;obtain⟨_,rfl,_⟩:=qBq rfl sy
  cases h
  refine eqFar_fin hop (fun d=>?_) (bin_ni _ _ _).1 (bin_ni _ _ _).2 (guard_ni _ _ _ _ _ _)
  exact eqn_ni hu _
 ·obtain⟨⟨ms,hu⟩,_⟩:=hf
  obtain⟨_,rfl,_⟩:=qBq rfl sx;cases qlq rfl sy
  cases h
  refine eqFar_fin hop (fun d=>?_) (bin_in _ _ _).1 (bin_in _ _ _).2 (guard_in _ _ _ _ _ _)
  exact eqn_in hu _
 ·rename_i ps t1 v1 t2 v2
  obtain⟨⟨ms,hu⟩,hps⟩:=hf
  obtain⟨y1,rfl,g1⟩:=qBq rfl sx;obtain⟨y2,rfl,g2⟩:=qBq rfl sy
  cases hb:Nat.beq t1 t2 with
  | false=>
   rw[hb] at h
   simp only[cond_false,Option.some.injEq] at h
   subst h
   have hne:t1≠t2:=fun e=>by rw[e,Nat.beq_refl] at hb;cases hb
   refine eqFar_fin hop (fun d=>?_) (bin_ii _ _ _ _ _).1 (bin_ii _ _ _ _ _).2 (guard_ii _ _ _ _ _ _ _ _)
   exact eqn_ne hu hne _
  | true=>
   rw[hb] at h
   have:=Nat.eq_of_beq_eq_true hb
   subst this
   simp only[cond_true] at h
   split at h
   ·rename_i p q
    cases hc:ps.contains t1 with
    | false=>rw[hc] at h;cases h
    | true=>
     rw[hc] at h
     simp only[cond_true] at h
     obtain⟨e,i,z,j,k1,k2,k3,k4,k5⟩:=hps t1 (by simpa using hc)
     obtain⟨a1,h1,rfl⟩:=ptr_sound rfl (slotR.of g1);obtain⟨a2,h2,rfl⟩:=ptr_sound rfl (slotR.of g2)
     have hq:=far_sound (P:=P) R h1 h2 h
     refine eqFar_fin hop (fun d=>?_) (bin_ii _ _ _ _ _).1 (bin_ii _ _ _ _ _).2 (guard_ii _ _ _ _ _ _ _ _)
     exact eqn_ii hu k4 k5 (eqn_pp k1 k2 k3 hq _)
   ·cases h
 ·cases h
theorem read_soundA {o:Oper} {ao:AOp} {v:AV} (R:Rel F m A w) (hc:compOpA P o.op=some ao) (e:EnvR M0 m n E a) (hv:readOf E A ao=some v):ReadOk P m a o v w:=by
 obtain⟨dst,op,type,pos,after,guard⟩:=o
 dsimp only at hc
 cases op with
 | load t x=>
  simp only[compOpA] at hc
  split at hc
  ·rename_i hus
   obtain⟨d,hd⟩:=Option.isSome_iff_exists.1 hus
   simp only[Option.map_eq_some_iff] at hc
   obtain⟨s,hs,rfl⟩:=hc
   obtain⟨i,hi1,hi2⟩:=qxq hs
   simp only[readOf] at hv
   split at hv
   ·rename_i p hp
    obtain⟨ad,h1,h2⟩:=ptr_sound hp (qcq e x)
    split at hv
    ·rename_i l hl
     obtain⟨b,ofs,ys,g1,g2,g3,g4⟩:=R.cells hl
     rw[g1] at h1;cases h1
     cases hg:isAggB P t with
     | true=>
      rw[hg] at hv hl g3;simp only[if_true,cond_true] at hv hl g3
      cases hv
      have hagg:(isAgg t).run P w=.ok true w:=by
       unfold isAggB at hg
       rw[hd] at hg
       cases d<;>simp at hg<;>simp[isAgg,run_underlying hd]
      have hld:=run_loadCells_list (P:=P) w ⟨b,ofs,none⟩ ys (fun j v hj=>by rw[Addr.add_mk];exact g4 j v hj)
      rw[g3] at hld
      refine⟨.agg ys.toArray,?_,by simp[cvo,g2]⟩
      simp[execOp,Instr.loadAt,h2,Instr.sureAddr,loadVar,hagg,sizeOf,typeInfo,hi1,hi2,hld]
     | false=>
      rw[hg] at hv hl g3;simp only[cond_false] at hv hl g3
      split at hv
      ·cases hv
       simp only[cvos] at g2
       split at g2
       ·rename_i y us hy hu
        cases g2
        have hagg:(isAgg t).run P w=.ok false w:=by
         unfold isAggB at hg
         rw[hd] at hg
         cases d<;>simp at hg<;>simp[isAgg,run_underlying hd]
        have hw:=g4 0 y rfl
        refine⟨y,?_,hy⟩
        simp only[Nat.add_zero] at hw
        simp[execOp,Instr.loadAt,h2,Instr.sureAddr,loadVar,hagg,hw]
       ·cases g2
      ·cases hv
    ·cases hv
   ·cases hv
  ·cases hc
 | convert src dst x=>
  simp only[compOpA] at hc
  split at hc
  ·simp only[Option.some.injEq] at hc;subst hc;simp[readOf] at hv
  ·simp only[Option.some.injEq] at hc;subst hc;simp[readOf] at hv
  ·split at hc
   ·simp only[Option.some.injEq] at hc;subst hc;simp[readOf] at hv
   ·cases hc
  ·rename_i el h1 h2
   split at hc
   ·rename_i h3
    have h3':=isU8_some h3
    simp only[Option.some.injEq] at hc;subst hc
    simp only[readOf] at hv
    split at hv
    ·rename_i po len cap q hx
     cases hv
     obtain⟨b,l,k,g1,g2,g3⟩:=nilSlice_cases hx (qcq e x)
     refine⟨.string ByteArray.empty,?_,rfl⟩
     cases b with
     | none=>simp[execOp,g1,run_convert_bytes_nil w src el h1 h3' l k dst h2]
     | some b=>
      have hl0:=g3 rfl
      subst hl0
      have hld:(loadCells b 0).run P w=.ok (([]:List Int).map (Value.int .u8)).toArray w:=rfl
      have:=run_bytesToString (P:=P) w b 0 k [] hld
      simp only[List.foldl_nil] at this
      simp[execOp,g1,run_convert_bytes_string w src dst el (some b) 0 k h1 h3' h2,this]
    ·rename_i p po len cap q hx
     split at hv
     ·rename_i l hl
      split at hv
      ·rename_i s hs
       cases hv
       obtain⟨bs,cap',k1,k2,k3,k4⟩:=slice_sound hx (qcq e x)
       obtain⟨b,ofs,ys,g1,g2,g3,g4⟩:=R.cells hl
       obtain⟨ns,t1,t2⟩:=textGo_spec hs
       have hys:ys=ns.map (Value.int .u8):=by
        have:∀ (ns:List Int) (ys:List Value),cvos m (ns.map (AV.int .u8))=some ys→ys=ns.map (Value.int .u8):=by
         intro ns
         induction ns with
         | nil=>intro ys h;simp[cvos] at h;simp[h]
         | cons z ns ih=>
          intro ys h
          simp only[List.map_cons,cvos,cvo] at h
          split at h
          ·rename_i y us hy hu;cases hy;cases h;simp[ih us hu]
          ·cases h
        exact this ns ys (by rw[←t1];exact g2)
       subst hys
       obtain⟨bb,oo,ss⟩:=bs
       simp only at k4;subst k4
       have hnl:ns.length=len:=by simpa using g3
       refine⟨.string (strOfNums ns),?_,by simp only[cvo,t2];rfl⟩
       have:=run_convert_bytes_arg (P:=P) w src el h1 h3' bb oo len cap' ns hnl (fun i hi=>by
        have hb:=k3 (by omega)
        rw[g1] at hb;cases hb
        have:=g4 i (.int .u8 (ns.getD i 0)) (by
         have hil:i<ns.length:=by omega
         rw[List.getElem?_map,List.getElem?_eq_getElem hil]
         simp[List.getD,hil])
        exact this) dst h2
       simp[execOp,k1,this]
      ·cases hv
     ·cases hv
    ·cases hv
   ·cases hc
  ·cases hc
 | binOp op t x y yt=>
  simp only[compOpA] at hc
  split at hc
  ·rename_i hop
   have hcase:op=.eql∨op=.neq:=by cases op<;>simp at hop<;>simp
   have key:∀ k,ao=.eq k (op == .neq) x y→EqFits P t k→(∀ e,k=.iface e→e=true→(∃ ms,P.underlying t=some (.interface ms)∧ms.isEmpty=true)∨isConstB x=true∨isConstB y=true)→ReadOk P m a ⟨dst,.binOp op t x y yt,type,pos,after,guard⟩ v w:=fun k hk hf hg=>by
    subst hk
    simp only[readOf] at hv
    cases hr:eqOf k (ev E x) (ev E y) with
    | some r=>
     rw[hr] at hv
     cases hv
     have h1:=eqOp_sound (P:=P) (qcq e x) (qcq e y) hr hf hcase w
     have h2:=eqGuard_sound (P:=P) (op:=op) (t:=t) (ox:=x) (oy:=y) (qcq e x) (qcq e y) hr w hg
     exact⟨_,by simp[execOp,h1,h2],rfl⟩
    | none=>
     rw[hr] at hv
     simp only[] at hv
     split at hv
     ·rename_i r hr2
      cases hv
      obtain⟨h2,h1⟩:=eqFar_sound (P:=P) (op:=op) (t:=t) (ox:=x) (oy:=y) R (qcq e x) (qcq e y) hf hr2 hcase
      exact⟨_,by simp[execOp,h1,h2],rfl⟩
     ·cases hv
   simp only[compEq] at hc
   split at hc
   ·simp only[Option.some.injEq] at hc;subst hc;simp[readOf] at hv
   ·simp only[Option.some.injEq] at hc;subst hc;simp[readOf] at hv
   ·simp only[Option.some.injEq] at hc;subst hc;simp[readOf] at hv
   ·rename_i el hu
    split at hc
    ·rename_i sz hsz
     obtain⟨i,h1,h2⟩:=qxq hsz
     exact key .ptr (by cases hc;rfl) ⟨el,i,sz,hu,h1,h2⟩ (fun _ h=>by cases h)
    ·cases hc
   ·rename_i el hu;exact key .nilSlice (by cases hc;rfl) ⟨el,hu⟩ (fun _ h=>by cases h)
   ·rename_i k el hu;exact key .nilMap (by cases hc;rfl) ⟨k,el,hu⟩ (fun _ h=>by cases h)
   ·rename_i h1 h2 h3 hu;exact key .nilFunc (by cases hc;rfl) ⟨_,_,_,hu⟩ (fun _ h=>by cases h)
   ·rename_i ms hu
    split at hc
    ·rename_i he
     refine key (.iface true) (by cases hc;rfl) ⟨ms,hu⟩ (fun e h _=>?_)
     simp only[Bool.or_eq_true] at he
     rcases he with (he|he)|he
     ·exact .inl ⟨ms,hu,he⟩
     ·exact .inr (.inl he)
     ·exact .inr (.inr he)
    ·exact key (.dyn (ptrTypes P)) (by cases hc;rfl) ⟨⟨ms,hu⟩,fun q hq=>ptrTypes_spec hq⟩ (fun _ h=>by cases h)
   ·cases hc
  ·simp only[Option.some.injEq] at hc;subst hc;simp[readOf] at hv
 | _=>
  exfalso
  simp only[compOpA,compEq] at hc
  repeat' split at hc
  all_goals first
   | (cases hc;done)
   | (simp only[Option.some.injEq] at hc;subst hc;simp[readOf] at hv;done)
   | (simp only[Option.map_eq_some_iff] at hc;obtain⟨_,_,rfl⟩:=hc;simp[readOf] at hv;done)
end
section
variable {P:Program} {M0:Mu} {F:Fr} {m:Mu} {n:Nat} {E:Env} {a:Act} {A:St} {w:World}

def EffOk (P:Program) (F:Fr) (m:Mu) (a:Act) (o:Oper) (v:AV) (B:St) (w:World):Prop:=
 ∃ (nx:Next) (c:Value) (w':World) (m':Mu),(execOp a.eval o).run P w=.ok nx w'∧(nx=.value c∨nx=.skip∧c=undef)∧m.le m'∧Rel F m' B w'∧slotR m' v c

theorem store_sound {o:Oper} {t:TypeId} {x y:Operand} (hop:o.op=.store t x y) {s:Nat} (hs:szOf P t=some s) (R:Rel F m A w) (e:EnvR M0 m n E a) {v:AV} {B:St} (hv:effOf E A (.store s x y)=some (v,B)):EffOk P F m a o v B w:=by
 simp only[effOf] at hv
 split at hv
 ·rename_i p hp
  obtain⟨ad,h1,h2⟩:=ptr_sound hp (qcq e x)
  obtain⟨i,hi1,hi2⟩:=qxq hs
  split at hv
  ·cases hv
  ·rename_i hb
   split at hv
   ·rename_i hlen
    split at hv
    ·rename_i B' hw
     cases hv
     have hnb:(ev E y).isBot=false:=by
      cases hy:ev E y<;>first|rfl|exact absurd hy hb
     obtain⟨us,g1,g2⟩:=cells_sound (qcq e y) hnb
     obtain⟨b,ofs,k1,k2,k3,k4⟩:=R.write hw g1
     rw[h1] at k1;cases k1
     have hst:=run_storeCells_cells (P:=P) b ofs us 0 w (fun j hj=>(k2 j hj).1) (fun j hj=>(k2 j hj).2) k3
     have hul:=qgq g1
     refine⟨.skip,undef,_,m,?_,.inr ⟨rfl,rfl⟩,Mu.le_refl m,k4,.inl rfl⟩
     simp only[Nat.add_zero] at hst
     have hsz:¬(us.length≠s):=by omega
     simp[execOp,hop,Instr.storeAt,h2,Instr.sureAddr,storeVar,g2,sizeOf,typeInfo,hi1,hi2,hul,hlen,hst]
    ·cases hv
   ·cases hv
 ·cases hv

theorem firstA_sound {size k:Nat} {x:AV} {cx:Value} {tx:TypeId} {new:List AV} (R:Rel F m A w) (sx:slotR m x cx) (hk:lenA x=some k) (hf:firstA A size k x=some new) (hlen:new.length=k*size)
  (hone:new.all AV.flat=true) (hty:(∃ e,P.underlying tx=some (.slice e))∨(P.underlying tx=some .string∧size=1)) (hnot:∀ s,x=.str s→P.underlying tx=some .string) (hsl:∀ p a b c d,x=.slice p a b c d→∃ e,P.underlying tx=some (.slice e)) :
  ∃ news,cvos m new=some news∧Src P size tx cx k news w∧∀ v∈news,v.oneCell'=true:=by
 have one:∀ news,cvos m new=some news→∀ v∈news,v.oneCell'=true:=fun news h v hv=>by
  obtain⟨j,hj⟩:=List.mem_iff_getElem?.1 hv
  obtain⟨z,hz,hzv⟩:=cvos_get' h hj
  exact oneCell_of_flat (List.all_eq_true.1 hone z (List.mem_of_getElem? hz)) hzv
 unfold firstA at hf
 split at hf
 ·rename_i po len cap q
  cases hf
  simp only[lenA,Option.some.injEq] at hk
  have hx:=sx.cv (by simp)
  simp only[cvo] at hx
  split at hx
  ·rename_i hz
   obtain⟨e',he'⟩:=hsl _ _ _ _ _ rfl
   rw[hz.1] at hk;subst hk
   split at hx
   ·cases hx;exact⟨[],rfl,Src.ofNil w he' 0,by simp⟩
   ·simp only[Option.map_eq_some_iff] at hx
    obtain⟨b,_,rfl⟩:=hx
    exact⟨[],rfl,Src.ofSlice w he' b 0 0 [] (by simp) (fun j u h=>by simp at h) (by simp),by simp⟩
  ·cases hx
 ·rename_i p po len cap q
  simp only[lenA,Option.some.injEq] at hk
  subst hk
  obtain⟨e',he'⟩:=hsl _ _ _ _ _ rfl
  obtain⟨bs,cap',g1,g2,g3,g4⟩:=slice_sound rfl sx
  obtain⟨b,ofs,ys,k1,k2,k3,k4⟩:=R.cells hf
  subst g1
  refine⟨ys,k2,Src.ofSlice w he' bs len cap' ys (by rw[k3]) (fun j u hj=>?_) (one ys k2),one ys k2⟩
  have hj2:j<ys.length:=by
   rcases Nat.lt_or_ge j ys.length with h|h
   ·exact h
   ·rw[List.getElem?_eq_none h] at hj;cases hj
  have hl0:0<len:=by
   rcases Nat.eq_zero_or_pos len with h|h
   ·subst h;rw[Nat.zero_mul] at k3;omega
   ·exact h
  have:=g3 hl0
  rw[k1] at this;cases this
  rw[Addr.add_mk];exact k4 j u hj
 ·rename_i s
  cases hf
  simp only[lenA,Option.some.injEq] at hk
  subst hk
  have hs:=cvo_str rfl sx
  subst hs
  have hts:=hnot _ rfl
  rcases hty with ⟨e,he⟩|⟨_,h1⟩
  ·rw[hts] at he;cases he
  ·subst h1
   have hb:=cvos_bytes (m:=m) s
   rw[List.take_length] at one ⊢
   refine⟨_,hb,?_,one _ hb⟩
   have:=Src.ofString (P:=P) w hts ⟨s.toArray⟩
   have hsz:(⟨s.toArray⟩:ByteArray).size=s.length:=List.size_toArray ..
   rw[hsz] at this
   exact this
 ·cases hf

theorem zeroCells_size (z:Array Value) (k:Nat):(Builtin.zeroCells z k).size=k*z.size:=by simp[Builtin.zeroCells]
theorem grown_ge (w:World) (need old:Nat) (e:TypeId):need≤grownCap w need old e:=by unfold grownCap;simp only[Question.cut];omega

theorem grow_run {t tx ty el:TypeId} {i:TypeInfo} {z:Value} (ht:P.underlying t=some (.slice el)) (hi:P.info? el=some i) (hz:i.zero=some z) (hzl:z.cells.size=i.size) {base:Option Addr} {sLen sCap k:Nat} {olds news:List Value} {cx:Value}
  (hold:∀ w':World,(∀ ad,w'.cell? ad=w.cell? ad)→(Builtin.firstCells i.size sLen (.slice base sLen sCap)).run P w'=.ok olds.toArray w') (hs:Src P i.size tx cx k news w) (hol:olds.length=sLen*i.size) (hg:sCap<sLen+k) (hb:(sLen+k)*i.bytes≤70368744177664) (hn:sLen+k≤70368744177664) :
  ∃ C:Array Value,∃ cap,(Builtin.append_ #[t,tx] ty #[.slice base sLen sCap,cx]).run P w=.ok (.slice (some ⟨w.heap.size,0,none⟩) (sLen+k) cap) (w.drew.alloc (.cells C el))∧sLen+k≤cap∧C.size=cap*i.size∧∀ (j:Nat) (y:Value),(olds++news)[j]?=some y→C[j]?=some y:=by
 have hfit:=growslice_fits (bytes:=i.bytes) hg (by omega)
 have hr:=run_append_grow_src (P:=P) w t tx ty el i z ht hi hz base sLen sCap olds (hold w.drew (fun _=>rfl)) cx k news hs hg (by omega) hfit
 refine⟨_,_,hr,grown_ge w _ _ _,?_,fun j y hj=>?_⟩
 ·rw[Array.size_append,zeroCells_size,hzl]
  have hnl:=hs.newsLen
  have hge:=grown_ge w (sLen+k) sCap el
  simp only[List.size_toArray,List.length_append,hol,hnl]
  rw[←Nat.add_mul,←Nat.add_mul]
  congr 1
  omega
 ·have hj2:j<(olds++news).length:=by
   rcases Nat.lt_or_ge j (olds++news).length with h|h
   ·exact h
   ·rw[List.getElem?_eq_none h] at hj;cases hj
  rw[Array.getElem?_append_left (by simpa using hj2)]
  simpa using hj

theorem append_sound {s x r:AV} {cs cx:Value} {B:St} {size bytes:Nat} (R:Rel F m A w) (ss:slotR m s cs) (sx:slotR m x cx) (h:appendOf A size bytes s x=some (r,B)) {t tx ty el:TypeId} {i:TypeInfo} {z:Value}
  (ht:P.underlying t=some (.slice el)) (hi:P.info? el=some i) (hz:i.zero=some z) (hzl:z.cells.size=i.size) (hsz:i.size=size) (hby:i.bytes=bytes)
  (hty:(∃ e,P.underlying tx=some (.slice e))∨(P.underlying tx=some .string∧size=1)) (hnot:∀ s,x=.str s→P.underlying tx=some .string) (hsl:∀ p a b c d,x=.slice p a b c d→∃ e,P.underlying tx=some (.slice e)) :
  ∃ c w' m',(Builtin.append_ #[t,tx] ty #[cs,cx]).run P w=.ok c w'∧m.le m'∧Rel F m' B w'∧cvo m' r=some c:=by
 subst hsz hby
 unfold appendOf at h
 split at h
 ·cases h
 ·rename_i k hk
  split at h
  ·cases h
  ·rename_i new hnew
   split at h
   ·rename_i hcnd
    obtain⟨hone,hlen,hs0⟩:=hcnd
    obtain⟨news,hnews,hsrc,hall⟩:=firstA_sound (P:=P) (tx:=tx) R sx hk hnew hlen hone hty hnot hsl
    have hnl:=qgq hnews
    split at h
    ·-- nil
     rename_i po len cap q
     split at h
     ·cases h
     ·rename_i hl0
      have hl0:len=0:=by simpa using hl0
      subst hl0
      have hx:=ss.cv (by simp)
      have hx0:=hx
      simp only[cvo] at hx
      split at hx
      ·rename_i hz0
       have hcx:∃ bs,cs=.slice bs 0 0:=by
        split at hx
        ·cases hx;exact⟨none,rfl⟩
        ·simp only[Option.map_eq_some_iff] at hx;obtain⟨b,_,rfl⟩:=hx;exact⟨some b,rfl⟩
       obtain⟨bs,rfl⟩:=hcx
       split at h
       ·rename_i hk0
        cases h
        subst hk0
        have hne:news=[]:=List.eq_nil_of_length_eq_zero (by rw[hnl,hlen];simp)
        subst hne
        exact⟨_,w,m,run_append_nothing w t tx ty el i ht hi bs 0 0 (Nat.le_refl _) cx hsrc,Mu.le_refl m,R,hx0⟩
       ·rename_i hk0
        split at h
        ·rename_i hb
         have hfc:∀ w':World,(∀ ad,w'.cell? ad=w.cell? ad)→(Builtin.firstCells i.size 0 (.slice bs 0 0)).run P w'=.ok ([]:List Value).toArray w':=fun w' _=>by
          cases bs with
          | none=>exact run_firstCells_none w' _ _ _ _
          | some b=>exact run_firstCells_some w' i.size 0 b 0 0 [] (by simp) (fun j v h=>by simp at h)
         obtain⟨C,cp,h1,h2,h3,h4⟩:=grow_run (P:=P) (w:=w) (ty:=ty) (base:=bs) (sLen:=0) (sCap:=0) (olds:=[]) ht hi hz hzl hfc hsrc (by simp) (by omega) (by simpa using hb.1) (by simpa using hb.2)
         cases h
         simp only[Nat.zero_add,List.nil_append] at h1 h2 h4
         have hle:k*i.size≤cp*i.size:=Nat.mul_le_mul_right _ h2
         obtain⟨g1,g2⟩:=R.drew.new_cells hnews (C:=C) (e:=el) (fz:=(0,0)) (cap:=cp) (sz:=i.size) h4 (by omega) (by omega) (by simp)
         refine⟨_,_,_,h1,g2,g1,?_⟩
         obtain⟨s',hs'⟩:∃ s',i.size=s'+1:=⟨i.size - 1,by omega⟩
         simp only[St.make,hs',cvo,Mu.add,plc]
         simp
         omega
        ·cases h
      ·cases hx
    ·-- exact
     rename_i f v o po len cap
     have hx:=ss.cv (by simp)
     simp only[cvo] at hx
     split at hx
     ·rename_i hlc
      simp only[Option.map_eq_some_iff] at hx
      obtain⟨ad,hp,rfl⟩:=hx
      split at h
      ·rename_i hroom
       split at h
       ·rename_i hk0
        cases h
        subst hk0
        have hne:news=[]:=List.eq_nil_of_length_eq_zero (by rw[hnl,hlen];simp)
        subst hne
        refine⟨_,w,m,run_append_nothing w t tx ty el i ht hi (some ad) len cap hlc cx hsrc,Mu.le_refl m,R,?_⟩
        simp only[cvo];rw[if_pos hlc,hp];rfl
       ·split at h
        ·rename_i B' hw
         cases h
         obtain⟨b,ofs,k1,k2,k3,k4⟩:=R.write hw hnews
         have hpa:=(plc_add hp (len*i.size)).1
         have hspot:=(plc_add hp 0).2
         obtain⟨bb,oo,sp⟩:=ad
         simp only at hspot;subst hspot
         rw[Addr.add_mk] at hpa
         rw[hpa] at k1;cases k1
         refine⟨_,_,m,run_append_room_src w t tx ty el i ht hi b oo len cap cx k news hsrc hroom (fun j hj=>(k2 j hj).1) (fun j hj=>(k2 j hj).2),Mu.le_refl m,k4,?_⟩
         simp only[cvo];rw[if_pos hroom,hp];rfl
        ·cases h
      ·rename_i hroom
       split at h
       ·rename_i hb
        split at h
        ·rename_i old hold
         cases h
         obtain⟨b,ofs,ys,k1,k2,k3,k4⟩:=R.cells hold
         rw[hp] at k1;cases k1
         obtain⟨C,cp,h1,h2,h3,h4⟩:=grow_run (P:=P) (w:=w) (ty:=ty) (base:=some ⟨b,ofs,none⟩) (sLen:=len) (sCap:=cap) (olds:=ys) ht hi hz hzl (fun w' hw'=>run_firstCells_some w' _ _ _ _ _ ys k3 (fun j u hj=>by rw[hw',Addr.add_mk];exact k4 j u hj)) hsrc k3 (by omega) hb.1 hb.2
         have hle:(len+k)*i.size≤cp*i.size:=Nat.mul_le_mul_right _ h2
         have hcv:=cvos_append k2 hnews
         have hol:=qgq k2
         obtain⟨g1,g2⟩:=R.drew.new_cells hcv (C:=C) (e:=el) (fz:=(0,0)) (cap:=cp) (sz:=i.size) h4 (by omega) (by simp;rw[Nat.add_mul] at hle;omega) (by simp)
         refine⟨_,_,_,h1,g2,g1,?_⟩
         obtain⟨s',hs'⟩:∃ s',i.size=s'+1:=⟨i.size - 1,by omega⟩
         simp only[St.make,hs',cvo,Mu.add,plc]
         simp
         omega
        ·cases h
       ·cases h
     ·cases hx
    ·-- inexact
     rename_i f v o po len skip q
     have hx:=ss.cv (by simp)
     have hx0:=hx
     simp only[cvo] at hx
     split at hx
     ·rename_i l hl
      split at hx
      ·rename_i hcl
       obtain⟨c1,c2,c3⟩:=hcl
       simp only[Option.map_eq_some_iff] at hx
       obtain⟨ad,hp,rfl⟩:=hx
       split at h
       ·rename_i hk0
        cases h
        subst hk0
        have hne:news=[]:=List.eq_nil_of_length_eq_zero (by rw[hnl,hlen];simp)
        subst hne
        exact⟨_,w,m,run_append_nothing w t tx ty el i ht hi (some ad) len _ (by omega) cx hsrc,Mu.le_refl m,R,hx0⟩
       ·rename_i hk0
        split at h
        ·rename_i hb
         obtain⟨hb1,hb2,hq⟩:=hb
         split at h
         ·rename_i csx vers nv hg
          split at h
          ·rename_i y hy
           obtain⟨hy1,hy2⟩:=qwq hy
           split at h
           ·rename_i hrange
            obtain⟨r1,r2,r3⟩:=hrange
            obtain⟨l',cr⟩:=(R.got _ _ hg).1 y hy1
            have:l'=l:=by have:=cr.mu;rw[hy2,hl] at this;cases this;rfl
            subst this
            have hlsz:l'.sz=i.size:=by omega
            have hroomcells:=(cr.rw rfl).2.1
            split at h
            ·-- within the known cells
             rename_i hin
             split at h
             ·rename_i B' hw
              cases h
              have hroom:skip+(len+k)≤l'.cap:=by
               have e1:(skip+(len+k))*i.size=skip*i.size+(len+k)*i.size:=Nat.add_mul _ _ _
               have hlo:=cr.lo
               rw[hlsz] at hroomcells c1
               have:(skip+(len+k))*i.size≤l'.cap*i.size:=by omega
               exact Nat.le_of_mul_le_mul_right this (by omega)
              rw[if_neg (by omega)] at hp
              obtain⟨b,ofs,k1,k2,k3,k4⟩:=R.write hw hnews
              have hpa:=(plc_add hp (len*i.size)).1
              have hspot:=(plc_add hp 0).2
              obtain⟨bb,oo,sp⟩:=ad
              simp only at hspot;subst hspot
              rw[Addr.add_mk] at hpa
              rw[hpa] at k1;cases k1
              refine⟨_,_,m,run_append_room_src w t tx ty el i ht hi b oo len (l'.cap - skip) cx k news hsrc (by omega) (fun j hj=>(k2 j hj).1) (fun j hj=>(k2 j hj).2),Mu.le_refl m,k4,?_⟩
              simp only[cvo,hl]
              rw[if_pos ⟨c1,hroom,c3⟩,if_neg (by omega),hp];rfl
             ·cases h
            ·rename_i hin
             cases h
             by_cases hroom:skip+(len+k)≤l'.cap
             ·-- in place
              rw[if_neg (by omega)] at hp
              obtain⟨q1,q2,q3⟩:=R.fork_in hg hy1 hy2 hl r1 r2 r3 hlsz c1 hroom hnews hlen hall
              have hlo:=cr.lo
              have hpl:ad=⟨l'.cb,l'.co+(o - l'.lo),none⟩:=by
               unfold plc at hp
               simp only at hp
               rw[hl] at hp
               dsimp only at hp
               rw[if_pos (by omega)] at hp
               exact (Option.some.inj hp).symm
              subst hpl
              refine⟨_,_,_,run_append_room_src w t tx ty el i ht hi _ _ len (l'.cap - skip) cx k news hsrc (by omega) (fun j hj=>(q1 j hj).1) (fun j hj=>(q1 j hj).2),q2,q3,?_⟩
              simp only[cvo,Mu.add,plc]
              simp
              exact⟨by omega,by omega⟩
             ·-- a new block
              have hcellsrd:∃ olds,cvos m ((csx.drop o).take (len*i.size))=some olds:=cvos_drop_take (fun j b' hj1 hj2 hb'=>by
               obtain⟨y',hy',_⟩:=cr.cell j b' (by omega) (by omega) hb';exact⟨y',hy'⟩)
              obtain⟨olds,hold⟩:=hcellsrd
              have hol:=qgq hold
              rw[List.length_take,List.length_drop] at hol
              have hol2:olds.length=len*i.size:=by omega
              have hfc:∀ w':World,(∀ ad,w'.cell? ad=w.cell? ad)→(Builtin.firstCells i.size len (.slice (some ad) len (l'.cap - skip))).run P w'=.ok olds.toArray w':=fun w' hw'=>by
               refine run_firstCells_some w' _ _ _ _ _ olds hol2 (fun j u hj=>?_)
               have hj2:j<olds.length:=by
                rcases Nat.lt_or_ge j olds.length with h|h
                ·exact h
                ·rw[List.getElem?_eq_none h] at hj;cases hj
               have hlpos:0<len:=by
                rcases Nat.eq_zero_or_pos len with h|h
                ·subst h;rw[Nat.zero_mul] at hol2;omega
                ·exact h
               rw[if_neg (by omega)] at hp
               unfold plc at hp
               simp only at hp
               rw[hl] at hp
               dsimp only at hp
               have hlo:=cr.lo
               rw[if_pos (by omega)] at hp
               cases hp
               obtain⟨b',hb',hbv⟩:=cvos_get' hold hj
               rw[List.getElem?_take,if_pos (by omega),List.getElem?_drop] at hb'
               obtain⟨y',hy',hwy⟩:=cr.cell (o+j) b' (by omega) (by omega) hb'
               rw[hbv] at hy';cases hy'
               rw[hw',Addr.add_mk,show l'.co+(o - l'.lo)+j=l'.co+(o+j - y.lo) by omega]
               exact hwy
              obtain⟨C,cp,h1,h2,h3,h4⟩:=grow_run (P:=P) (w:=w) (ty:=ty) (base:=some ad) (sLen:=len) (sCap:=l'.cap - skip) (olds:=olds) ht hi hz hzl hfc hsrc hol2 (by omega) hb1 hb2
              obtain⟨q2,q3⟩:=R.drew.fork_out (v:=v) hg hy1 r1 r2 r3 hnews hlen hold (C:=C) (e:=el) (cap:=cp) h4 (by omega) h2
              refine⟨_,_,_,h1,q2,q3,?_⟩
              simp only[cvo,Mu.add,plc]
              simp
              exact⟨by omega,by omega⟩
           ·cases h
          ·cases h
         ·cases h
        ·cases h
      ·cases hx
     ·cases hx
    ·cases h
   ·cases h

theorem eff_soundA {o:Oper} {ao:AOp} {v:AV} {B:St} (R:Rel F m A w) (hc:compOpA P o.op=some ao) (e:EnvR M0 m n E a) (hv:effOf E A ao=some (v,B)):EffOk P F m a o v B w:=by
 obtain⟨dst,op,type,pos,after,guard⟩:=o
 dsimp only at hc
 cases op with
 | store t x y=>
  simp only[compOpA,Option.map_eq_some_iff] at hc
  obtain⟨s,hs,rfl⟩:=hc
  exact store_sound rfl hs R e hv
 | convert src dst' x=>
  simp only[compOpA] at hc
  split at hc
  ·simp only[Option.some.injEq] at hc;subst hc;simp[effOf] at hv
  ·simp only[Option.some.injEq] at hc;subst hc;simp[effOf] at hv
  ·split at hc
   ·simp only[Option.some.injEq] at hc;subst hc;simp[effOf] at hv
   ·cases hc
  ·split at hc
   ·simp only[Option.some.injEq] at hc;subst hc;simp[effOf] at hv
   ·cases hc
  ·cases hc
 | call c=>
  obtain⟨callee,args,argTypes⟩:=c
  simp only[compOpA] at hc
  split at hc
  ·split at hc
   ·simp only[Option.some.injEq] at hc;subst hc;simp[effOf] at hv
   ·simp only[Option.some.injEq] at hc;subst hc;simp[effOf] at hv
   ·simp only[Option.some.injEq] at hc;subst hc;simp[effOf] at hv
   ·cases hc
  ·split at hc
   ·rename_i s x t tx hargs htypes
    have ha:args=#[s,x]:=by apply Array.ext';simpa using hargs
    have ht0:argTypes=#[t,tx]:=by apply Array.ext';simpa using htypes
    subst ha ht0
    have fin:∀ (b:Bool) (el:TypeId) (i:TypeInfo) (z:List AV),P.underlying t=some (.slice el)→P.info? el=some i→zeroCs P el=some z→z.length=i.size→ao=.append b i.size i.bytes s x →
      ((b=false∧∃ e,P.underlying tx=some (.slice e))∨(b=true∧P.underlying tx=some .string∧i.size=1))→EffOk P F m a ⟨dst,.call ⟨.builtin .append,#[s,x],#[t,tx]⟩,type,pos,after,guard⟩ v B w:=fun b el i z hu hi hz hzl hao hty=>by
     subst hao
     simp only[effOf] at hv
     cases hok:okSrc b (ev E x) with
     | false=>rw[hok] at hv;cases hv
     | true=>
     rw[hok] at hv;simp only[cond_true] at hv
     obtain⟨i',zv,hi',hzv,hz'⟩:=zeroCs_some hz
     rw[hi] at hi';cases hi'
     have hl:=qgq (mapM_const (m:=m) hz')
     have hx1:∀ s',ev E x=.str s'→P.underlying tx=some .string:=fun s' hs'=>by
      rcases hty with ⟨hb,e',he'⟩|⟨hb,h,_⟩
      ·rw[hb,hs'] at hok;cases hok
      ·exact h
     have hx2:∀ p a b c d,ev E x=.slice p a b c d→∃ e,P.underlying tx=some (.slice e):=fun p a' b' c' d hs'=>by
      rcases hty with ⟨hb,h⟩|⟨hb,h,_⟩
      ·exact h
      ·rw[hb,hs'] at hok;cases hok
     obtain⟨c,w',m',h1,h2,h3,h4⟩:=append_sound (P:=P) (ty:=type) R (qcq e s) (qcq e x) hv hu hi hzv (by simp at hl;omega) rfl rfl (hty.imp (·.2) (·.2)) hx1 hx2
     refine⟨.value c,c,w',m',?_,.inl rfl,h2,h3,.inr h4⟩
     simp[execOp,resolve,invoke,builtin,h1]
    split at hc
    ·rename_i el e' hu hu2
     split at hc
     ·rename_i i hi
      split at hc
      ·rename_i z hz
       split at hc
       ·rename_i hzl
        exact fin false el i z hu hi hz hzl (by cases hc;rfl) (.inl ⟨rfl,e',hu2⟩)
       ·cases hc
      ·cases hc
     ·cases hc
    ·rename_i el hu hu2
     split at hc
     ·rename_i i hi
      split at hc
      ·rename_i z hz
       split at hc
       ·rename_i hzl
        exact fin true el i z hu hi hz hzl.1 (by cases hc;rfl) (.inr ⟨rfl,hu2,hzl.2⟩)
       ·cases hc
      ·cases hc
     ·cases hc
    ·cases hc
   ·cases hc
  ·split at hc
   ·cases hc
   ·simp only[Option.some.injEq] at hc;subst hc;simp[effOf] at hv
  ·simp only[Option.some.injEq] at hc;subst hc;simp[effOf] at hv
  ·cases hc
 | _=>
  exfalso
  simp only[compOpA,compEq] at hc
  repeat' split at hc
  all_goals first
   | (cases hc;done)
   | (simp only[Option.some.injEq] at hc;subst hc;simp[effOf] at hv;done)
   | (simp only[Option.map_eq_some_iff] at hc;obtain⟨_,_,rfl⟩:=hc;simp[effOf] at hv;done)
end
end Go.AM
