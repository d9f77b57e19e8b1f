/- The tape: may a change be; is there power. -/
import Derived.Test.YtlaoookdegmnnaaGreatDoorAmArg
import Derived.Sort.Row
import Derived.Sort.Grow
import Derived.Sort.Walk0
import Derived.Test.YtlaoookdegmnnaaGreatDoorStFrames
import Derived.Test.YtlaoookdegmnnaaGreatDoorAmRun
set_option linter.unusedVariables false
set_option linter.unusedSimpArgs false
set_option maxRecDepth 100000
namespace Go.AM

theorem Rel.weaken {F:Fr} {m:Mu} {A B:St} {w:World} (R:Rel F m A w) (hn:A.next≤B.next) (hg:∀ f b,B.get f=some b→A.get f=some b):Rel F m B w:=
 ⟨fun f v l h=>⟨Nat.lt_of_lt_of_le (R.dom f v l h).1 hn,(R.dom f v l h).2⟩,fun f b h=>R.got f b (hg f b h),R.keep,R.rest,fun f v l g u k h1 h2 hne ⟨b,hb,hr⟩=>R.apart f v l g u k h1 h2 hne ⟨b,hg _ _ hb,hr⟩,
  fun f v l h1 ⟨b,hb,hr⟩=>R.unf f v l h1 ⟨b,hg _ _ hb,hr⟩,R.same,fun f l h ⟨b,hb,hr⟩=>R.orig f l h ⟨b,hg _ _ hb,hr⟩,R.frm⟩

section
variable (P:Program) (M0:Mu) (n:Nat)
def EvS (f:FuncId) (args:List AV) (A:St) (Q:AV→St→Prop):Prop:=
 (∃ fn,P.funcs[f]?=some fn∧fn.body.isSome=true∧fn.name ≠ "runtime.NumGoroutine")∧∀ F m w cargs,M0.le m→Rel F m A w→cvos m args=some cargs →
  Calls P f cargs.toArray w fun e w'=>∃ r B c m',Q r B∧e=.returned c∧m.le m'∧Rel F m' B w'∧cvo m' r=some c
def OpAny (ao:AOp) (E:Env) (A:St) (K:AV→St→Prop):Prop:=
 ∀ (o:Oper),compOp P o.op=some ao→∀ (F:Fr) (m:Mu) (a:Act) (w:World),Rel F m A w→EnvR M0 m n E a→∀ (next:Act→World→Prop) (Q:Exit→Act→World→Prop),
  (∀ c m' w' v B,m.le m'→Rel F m' B w'→slotR m' v c→K v B→next (a.put o.dst c) w')→o.wpIn Fence.wide 0 P a w next Q
def MRun:List AOper→Env→St→(Env→St→Prop)→Prop
 | [],E,A,Q=>Q E A
 | o::l,E,A,Q=>match wantedA E o.guard with
  | some true=>OpAny P M0 n o.op E A fun v B=>MRun l (Env.put E o.dst v) B Q
  | some false=>MRun l (Env.put E o.dst (.tuple [])) A Q
  | none=>False
def MW (ac:ACode) (E:Env) (A:St) (Q:Ex→Env→St→Prop):Prop:=
 ∀ (c:Code),comp P n c=some ac→∀ (F:Fr) (m:Mu) (a:Act) (w:World),RelD F m A w a→EnvR M0 m n E a→c.wpIn Fence.wide 0 P (fun e a' w'=>∃ ex E' A',Q ex E' A'∧Done M0 F n m ex E' A' e a' w') a w
end

section
variable {P:Program} {M0:Mu} {n:Nat} {D:Disp} {G0:Env} {fns:Nat→Option AFn} {X:Calls'}

theorem OpAny.det {G:Calls'} (hG:CSound P M0 G) {ao:AOp} {E:Env} {A B:St} {v:AV} {K:AV→St→Prop} (h:opOfL D G E A ao=some (v,B)) (hK:K v B):OpAny P M0 n ao E A K:=
 fun o hc F m a w R e next Q k=>op_soundL (.inl rfl) hG R hc e h fun c m' w' h1 h2 h3=>k c m' w' v B h1 h2 h3 hK
theorem OpAny.mono {ao:AOp} {E:Env} {A:St} {K K':AV→St→Prop} (h:OpAny P M0 n ao E A K) (hk:∀ v B,K v B→K' v B):OpAny P M0 n ao E A K':=
 fun o hc F m a w R e next Q k=>h o hc F m a w R e next Q fun c m' w' v B h1 h2 h3 h4=>k c m' w' v B h1 h2 h3 (hk v B h4)

theorem mrun_sound {F:Fr} {ds:List Deferred} (ops:Array Oper) {Q:Exit→Act→World→Prop}:∀ (l:List Oper) (k:Nat) (al:List AOper),(∀ j,l[j]?=ops[k+j]?)→compOpers P n ops l=some al →
  ∀ {m:Mu} {E:Env} {a:Act} {A:St} {w:World} {QQ:Env→St→Prop},Rel F m A w→EnvR M0 m n E a→a.defers=ds→MRun P M0 n al E A QQ →
  (∀ m' a' w' E' A',QQ E' A'→m.le m'→Rel F m' A' w'→EnvR M0 m' n E' a'→a'.defers=ds→Q .normal a' w')→wpOpsIn Fence.wide 0 P ops Q (List.range' k l.length) a w
 | [],k,al,hl,hc,m,E,a,A,w,QQ,R,e,hd,h,K=>by
  simp only[compOpers,Option.some.injEq] at hc;subst hc
  simp only[List.length_nil,List.range'_zero,wpOpsIn]
  exact K m a w E A h (Mu.le_refl m) R e hd
 | o::l,k,al,hl,hc,m,E,a,A,w,QQ,R,e,hd,h,K=>by
  simp only[compOpers] at hc
  split at hc
  ·rename_i ao r hao hr
   cases hc
   have ho:ops[k]?=some o:=by have:=hl 0;simpa using this.symm
   have hl':∀ j,l[j]?=ops[k+1+j]?:=fun j=>by have:=hl (j+1);simp only[List.getElem?_cons_succ] at this;rw[this];congr 1;omega
   simp only[List.length_cons,List.range'_succ,wpOpsIn,ho]
   unfold compOper at hao
   split at hao
   ·rename_i hdst
    split at hao
    ·rename_i aop haop
     have hguard:ao.dst=o.dst∧ao.op=aop∧((o.guard=none∧ao.guard=none)∨∃ j want t,o.guard=some (j,want)∧(ops[j]?).bind (·.dst)=some t∧t<n∧ao.guard=some (t,want)):=by
      split at hao
      ·rename_i hg;cases hao;exact⟨rfl,rfl,.inl ⟨hg,rfl⟩⟩
      ·rename_i j want hg
       split at hao
       ·rename_i t ht
        split at hao
        ·rename_i htn;cases hao;exact⟨rfl,rfl,.inr ⟨j,want,t,hg,ht,htn,rfl⟩⟩
        ·cases hao
       ·cases hao
     obtain⟨g1,g2,g3⟩:=hguard
     simp only[MRun] at h
     split at h
     ·rename_i hw
      rw[wanted_sound e g3 hw,if_pos rfl]
      rw[g2] at h
      refine (h o haop F m a w R e _ _ fun c m' w' v B hle R' hs hK=>?_)
      rw[g1] at hK
      exact mrun_sound ops l (k+1) r hl' hr R' ((e.mono hle).put hdst hs) (by cases o.dst<;>exact hd) hK (fun m'' a' w'' E' A' hq h1 h2 h3 h4=>K m'' a' w'' E' A' hq (Mu.le_trans hle h1) h2 h3 h4)
     ·rename_i hw
      rw[wanted_sound e g3 hw]
      simp only[Bool.false_eq_true,if_false]
      rw[g1] at h
      refine⟨fun f _=>trivial,?_⟩
      exact mrun_sound ops l (k+1) r hl' hr R (e.put hdst (.inr rfl)) (by cases o.dst<;>exact hd) h K
     ·exact h.elim
    ·cases hao
   ·cases hao
  ·cases hc

theorem rangeFunc_inv {g:Operand} {ps:Array Tmp} {x y:Code} {ac:ACode} (hc:comp P n (.rangeFunc g ps x y)=some ac):(∃ g ps k x y,ac=.rangeF g ps k x y)∨ac=stuckCode:=by
 simp only[comp] at hc
 split at hc
 ·rename_i ax ay hx hy
  cases hb:(ax.noRF&&ay.noRF)&&ps.toList.all fun p=>decide (p<n∧p<1000000) with
  | true=>rw[hb] at hc;cases hc;exact .inl ⟨_,_,_,_,_,rfl⟩
  | false=>rw[hb] at hc;cases hc;exact .inr rfl
 ·cases hc
theorem MW.mono {ac:ACode} {E:Env} {A:St} {Q Q':Ex→Env→St→Prop} (h:MW P M0 n ac E A Q) (hq:∀ ex E A,Q ex E A→Q' ex E A):MW P M0 n ac E A Q':=
 fun c hc F m a w R e=>wpIn_mono (h c hc F m a w R e) fun _ _ _ ⟨ex,E',A',h1,h2⟩=>⟨ex,E',A',hq _ _ _ h1,h2⟩
theorem MW.det (hmx:P.follows .mixedOrders=true) (hp:PgOk M0 P) {G:Calls'} (hG:CSound P M0 G) {k:Nat} {ac:ACode} {E E':Env} {A A':St} {ex:Ex} {Q:Ex→Env→St→Prop} (h:interp D G k ac E A=some (ex,E',A')) (hq:Q ex E' A'):MW P M0 n ac E A Q:=
 fun c hc F m a w R e=>wpIn_mono (interp_sound (.inl rfl) hmx hp hG k c ac hc (.inl rfl) R e h) fun _ _ _ q=>⟨ex,E',A',hq,q⟩
theorem MW.of_Wp (hmx:P.follows .mixedOrders=true) (hp:PgOk M0 P) (hb:BaseOk M0 G0) (hfns:∀ f afn,fns f=some afn→∃ fn,P.funcs[f]?=some fn∧compFn P fn=some afn∧fn.name ≠ "runtime.NumGoroutine") (hX:GSound P M0 X) {ac:ACode} {E:Env} {A:St} {Q:Ex→Env→St→Prop} (h:Wp D G0 fns X ac E A Q):MW P M0 n ac E A Q:=by
 obtain⟨k,ex,E',A',h1,h2⟩:=h
 exact MW.det hmx hp (calls_sound hmx hp hb hfns hX k) h1 h2
theorem MW.seq {x y:ACode} {E:Env} {A:St} {Q:Ex→Env→St→Prop} (h:MW P M0 n x E A fun ex E' A'=>match ex with|.normal=>MW P M0 n y E' A' Q|ex=>Q ex E' A'):MW P M0 n (.seq x y) E A Q:=by
 intro c hc F m a w R e
 cases c with
 | seq cx cy=>
  simp only[comp] at hc
  split at hc
  ·rename_i ax ay hx hy
   cases hc
   refine wpIn_seq ?_
   refine wpIn_mono (h cx hx F m a w R e) fun e1 a1 w1 q=>?_
   obtain⟨ex,E',A',hq,rfl,m1,g1,g2,g3⟩:=q
   cases ex with
   | normal=>
    refine wpIn_mono (hq cy hy F m1 a1 w1 g2 g3) fun _ _ _ q=>?_
    obtain⟨ex,E2,A2,q1,q2⟩:=q
    exact⟨ex,E2,A2,q1,q2.mono g1⟩
   | exit i=>exact⟨_,_,_,hq,rfl,m1,g1,g2,g3⟩
   | ret=>exact⟨_,_,_,hq,rfl,m1,g1,g2,g3⟩
  ·cases hc
 | region id ops draw=>
  exfalso
  cases draw with
  | true=>
   simp only[comp] at hc
   split at hc
   ·rename_i cc hcc
    cases hc
    obtain⟨_,h⟩:=compDraw_draws hcc
    cases h
   ·cases hc
  | false=>simp only[comp,Option.map_eq_some_iff] at hc;obtain⟨_,_,h⟩:=hc;cases h
 | cond=>simp only[comp] at hc;split at hc<;>cases hc
 | block=>simp only[comp,Option.map_eq_some_iff] at hc;obtain⟨_,_,h⟩:=hc;cases h
 | loop=>simp only[comp,Option.map_eq_some_iff] at hc;obtain⟨_,_,h⟩:=hc;cases h
 | rangeFunc=>rcases rangeFunc_inv hc with ⟨_,_,_,_,_,h⟩|h<;>cases h
 | _=>simp[comp,stuckCode] at hc

theorem draw_inv {ops:Array Oper} {id:Nat} {ac:ACode} (hc:comp P n (.region id ops true)=some ac):(∃ lim,ac=.draws lim)∨ac=stuckCode:=by
 simp only[comp] at hc
 split at hc
 ·rename_i cc hcc
  cases hc
  exact .inl (compDraw_draws hcc)
 ·cases hc;exact .inr rfl
theorem region_inv {al:List AOper} {c:Code} (hc:comp P n c=some (.region al)):∃ id ops,c=.region id ops false∧compOpers P n ops ops.toList=some al:=by
 cases c with
 | region id ops draw=>
  cases draw with
  | true=>rcases draw_inv hc with ⟨_,h⟩|h<;>cases h
  | false=>simp only[comp,Option.map_eq_some_iff] at hc;obtain⟨al',h1,h2⟩:=hc;cases h2;exact⟨id,ops,rfl,h1⟩
 | seq=>simp only[comp] at hc;split at hc<;>cases hc
 | cond=>simp only[comp] at hc;split at hc<;>cases hc
 | block=>simp only[comp,Option.map_eq_some_iff] at hc;obtain⟨_,_,h⟩:=hc;cases h
 | loop=>simp only[comp,Option.map_eq_some_iff] at hc;obtain⟨_,_,h⟩:=hc;cases h
 | rangeFunc=>rcases rangeFunc_inv hc with ⟨_,_,_,_,_,h⟩|h<;>cases h
 | _=>simp[comp,stuckCode] at hc
theorem block_inv {id:Nat} {x:ACode} {c:Code} (hc:comp P n c=some (.block id x)):∃ cx,c=.block id cx∧comp P n cx=some x:=by
 cases c with
 | region id ops draw=>
  cases draw with
  | true=>rcases draw_inv hc with ⟨_,h⟩|h<;>cases h
  | false=>simp only[comp,Option.map_eq_some_iff] at hc;obtain⟨al',h1,h2⟩:=hc;cases h2
 | seq=>simp only[comp] at hc;split at hc<;>cases hc
 | cond=>simp only[comp] at hc;split at hc<;>cases hc
 | block i cx=>simp only[comp,Option.map_eq_some_iff] at hc;obtain⟨_,h1,h⟩:=hc;cases h;exact⟨cx,rfl,h1⟩
 | loop=>simp only[comp,Option.map_eq_some_iff] at hc;obtain⟨_,_,h⟩:=hc;cases h
 | rangeFunc=>rcases rangeFunc_inv hc with ⟨_,_,_,_,_,h⟩|h<;>cases h
 | _=>simp[comp,stuckCode] at hc
theorem loop_inv {x:ACode} {c:Code} (hc:comp P n c=some (.loop x)):∃ cx,c=.loop cx∧comp P n cx=some x:=by
 cases c with
 | region id ops draw=>
  cases draw with
  | true=>rcases draw_inv hc with ⟨_,h⟩|h<;>cases h
  | false=>simp only[comp,Option.map_eq_some_iff] at hc;obtain⟨al',h1,h2⟩:=hc;cases h2
 | seq=>simp only[comp] at hc;split at hc<;>cases hc
 | cond=>simp only[comp] at hc;split at hc<;>cases hc
 | block i cx=>simp only[comp,Option.map_eq_some_iff] at hc;obtain⟨_,h1,h⟩:=hc;cases h
 | loop cx=>simp only[comp,Option.map_eq_some_iff] at hc;obtain⟨_,h1,h⟩:=hc;cases h;exact⟨cx,rfl,h1⟩
 | rangeFunc=>rcases rangeFunc_inv hc with ⟨_,_,_,_,_,h⟩|h<;>cases h
 | _=>simp[comp,stuckCode] at hc
theorem cond_inv {o:Operand} {x y:ACode} {c:Code} (hc:comp P n c=some (.cond o x y)):(∃ cx cy,c=.cond o cx cy∧comp P n cx=some x∧comp P n cy=some y)∨ACode.cond o x y=stuckCode:=by
 cases c with
 | region id ops draw=>
  cases draw with
  | true=>
   rcases draw_inv hc with ⟨_,h⟩|h
   ·cases h
   ·exact .inr h
  | false=>simp only[comp,Option.map_eq_some_iff] at hc;obtain⟨al',h1,h2⟩:=hc;cases h2
 | seq=>simp only[comp] at hc;split at hc<;>cases hc
 | cond o' cx cy=>
  simp only[comp] at hc
  split at hc
  ·rename_i ax ay hx hy;cases hc;exact .inl ⟨cx,cy,rfl,hx,hy⟩
  ·cases hc
 | block i cx=>simp only[comp,Option.map_eq_some_iff] at hc;obtain⟨_,h1,h⟩:=hc;cases h
 | loop cx=>simp only[comp,Option.map_eq_some_iff] at hc;obtain⟨_,h1,h⟩:=hc;cases h
 | skip=>simp[comp] at hc
 | exit=>simp[comp] at hc
 | ret=>simp[comp] at hc
 | rangeFunc=>
  rcases rangeFunc_inv hc with ⟨_,_,_,_,_,h⟩|h
  ·cases h
  ·exact .inr h
 | _=>simp only[comp,Option.some.injEq] at hc;exact .inr hc.symm

theorem MW.region {al:List AOper} {E:Env} {A:St} {Q:Ex→Env→St→Prop} (h:MRun P M0 n al E A fun E A=>Q .normal E A):MW P M0 n (.region al) E A Q:=by
 intro c hc F m a w R e
 obtain⟨id,ops,rfl,hal⟩:=region_inv hc
 obtain⟨Ds,hD,R,hd⟩:=R
 have:=mrun_sound (Q:=fun e a' w'=>∃ ex E' A',Q ex E' A'∧Done M0 F n m ex E' A' e a' w') ops ops.toList 0 al (fun j=>by simp) hal R e hd h
  (fun m' a' w' E' A' hq h1 h2 h3 h4=>⟨.normal,E',A',hq,rfl,m',h1,⟨Ds,hD,h2,h4⟩,h3⟩)
 refine wpIn_region ?_
 rw[List.range_eq_range']
 simpa using this
theorem MW.block {id:Nat} {x:ACode} {E:Env} {A:St} {Q:Ex→Env→St→Prop} (h:MW P M0 n x E A fun ex E' A'=>match ex with|.exit i=>if i=id then Q .normal E' A' else Q (.exit i) E' A'|ex=>Q ex E' A'):MW P M0 n (.block id x) E A Q:=by
 intro c hc F m a w R e
 obtain⟨cx,rfl,hx⟩:=block_inv hc
 refine wpIn_block ?_
 refine wpIn_mono (h cx hx F m a w R e) fun e1 a1 w1 q=>?_
 obtain⟨ex,E',A',hq,rfl,m1,g1,g2,g3⟩:=q
 cases ex with
 | normal=>exact⟨_,_,_,hq,rfl,m1,g1,g2,g3⟩
 | ret=>exact⟨_,_,_,hq,rfl,m1,g1,g2,g3⟩
 | exit i=>
  simp only at hq
  simp only[Ex.toExit,Exit.inBlock]
  by_cases hi:i=id
  ·rw[if_pos hi] at hq ⊢;exact⟨_,_,_,hq,rfl,m1,g1,g2,g3⟩
  ·rw[if_neg hi] at hq ⊢;exact⟨_,_,_,hq,rfl,m1,g1,g2,g3⟩
theorem MW.cond {o:Operand} {x y:ACode} {E:Env} {A:St} {Q:Ex→Env→St→Prop} {b:Bool} (hb:ev E o=.bool b) (ht:b=true→MW P M0 n x E A Q) (hf:b=false→MW P M0 n y E A Q):MW P M0 n (.cond o x y) E A Q:=by
 intro c hc F m a w R e
 rcases cond_inv hc with ⟨cx,cy,rfl,hx,hy⟩|h
 ·cases b with
  | true=>exact wpIn_cond_true (cvo_bool hb (qcq e o)) (ht rfl cx hx F m a w R e)
  | false=>exact wpIn_cond_false (cvo_bool hb (qcq e o)) (hf rfl cy hy F m a w R e)
 ·unfold stuckCode at h
  cases h
  simp[ev,constAV,constFlat] at hb
theorem MW.loop {x:ACode} {E:Env} {A:St} {Q:Ex→Env→St→Prop} (I:Nat→Env→St→Prop) (d:Nat) (h:I d E A) (round:∀ d E A,I d E A→MW P M0 n x E A fun ex E' A'=>match ex with|.normal=>∃ d',d'<d∧I d' E' A'|ex=>Q ex E' A'):MW P M0 n (.loop x) E A Q:=by
 intro c hc F m a w R e
 obtain⟨cx,rfl,hx⟩:=loop_inv hc
 refine wpIn_loop_rounds (d+1) ?_
 have key:∀ j d,d<j→∀ {m':Mu} {E:Env} {a:Act} {A:St} {w:World},m.le m'→I d E A→RelD F m' A w a→EnvR M0 m' n E a→Code.roundsIn Fence.wide 0 P cx (fun e a' w'=>∃ ex E' A',Q ex E' A'∧Done M0 F n m ex E' A' e a' w') j a w:=by
  intro j
  induction j with
  | zero=>intro d hd;omega
  | succ j ih=>
   intro d hdj m' E a A w hle hI R e
   rw[roundsIn_succ]
   refine wpIn_mono (round d E A hI cx hx F m' a w R e) fun e1 a1 w1 q=>?_
   obtain⟨ex,E',A',hq,rfl,m1,g1,g2,g3⟩:=q
   cases ex with
   | normal=>
    obtain⟨d',hd',hI'⟩:=hq
    exact ih d' (by omega) (Mu.le_trans hle g1) hI' g2 g3
   | exit i=>exact⟨_,_,_,hq,rfl,m1,Mu.le_trans hle g1,g2,g3⟩
   | ret=>exact⟨_,_,_,hq,rfl,m1,Mu.le_trans hle g1,g2,g3⟩
 exact key (d+1) d (Nat.lt_succ_self d) (Mu.le_refl m) h R e

theorem EvS.fn (hb:BaseOk M0 G0) {f:FuncId} {fn:Func} {afn:AFn} (hf:P.funcs[f]?=some fn) (hc:compFn P fn=some afn) (hname:fn.name ≠ "runtime.NumGoroutine") {args:List AV} {A:St} {Q:AV→St→Prop} (hn:args.length≤afn.n∧afn.n≤1000000)
  (h:MW P M0 fn.ntmps afn.body (setArgs 0 args G0) A fun ex E B=>match ex with|.exit _=>False|_=>∃ l,resVals E B afn.res=some l∧Q (packRes l) B):EvS P M0 f args A Q:=by
 unfold compFn at hc
 split at hc
 ·rename_i c hbody
  split at hc
  ·rename_i b rs hcb hcr
   cases hc
   refine⟨⟨fn,hf,by rw[hbody];rfl,hname⟩,fun F m w cargs hm R hargs=>?_⟩
   have e:=enter_env hb hm hargs hn
   refine callsIn_wide.1 (callsIn_of_wp_marks (n:=0) hf hbody trivial ?_)
   refine wpIn_mono (h c hcb F m _ w (R.toD rfl) e) fun ee a' w' q=>?_
   obtain⟨ex,E1,B1,hq,rfl,m',q1,⟨Ds,q2,q3,q4⟩,q5⟩:=q
   have H:∀ l,resVals E1 B1 rs=some l→Q (packRes l) B1→∀ w,Rel F m' B1 w→∃ v,(results fn a'.tmps).run P w=.ok v w∧∃ r B c m'',Q r B∧Ending.returned v=.returned c∧m.le m''∧Rel F m'' B w∧cvo m'' r=some c:=fun l hl hQ w R'=>by
    obtain⟨v,v1,v2⟩:=results_sound R' q5 hcr hl
    exact⟨v,v2,packRes l,B1,v,m',hQ,rfl,q1,R',v1⟩
   have hL:=fun l hl hQ=>leaves (P:=P) (R:=fun e w'=>∃ r B c m'',Q r B∧e=.returned c∧m.le m''∧Rel F m'' B w'∧cvo m'' r=some c) (H l hl hQ) Ds w' q2 q3
   rw[←q4] at hL
   cases ex with
   | exit i=>exact hq.elim
   | normal=>
    obtain⟨l,hl,hQ⟩:=hq
    exact hL l hl hQ
   | ret=>
    obtain⟨l,hl,hQ⟩:=hq
    exact hL l hl hQ
  ·cases hc
 ·cases hc

def candO (since:Nat) (seen:List Nat) (es:Array MapEntry):Array MapEntry:=(es.filter fun e=>!seen.toArray.contains e.born).filter fun e=>decide (e.born<since)
def candN (since:Nat) (seen:List Nat) (es:Array MapEntry):Array MapEntry:=(es.filter fun e=>!seen.toArray.contains e.born).filter fun e=>decide (e.born≥since)
theorem OpAny.next {it:Operand} {E:Env} {A:St} {K:AV→St→Prop} {f g:Nat} {since last clock:Nat} {seen:List Nat} {es:List (AV × AV × Nat)}
  (hx:ev E it=.ptr (some (f,0,0))) (hg:A.get f=some (.iter (.map (some g) since seen last))) (hgm:A.get g=some (.map es clock)) (hgone:(!seen.isEmpty&&!es.isEmpty&&es.all fun e=>decide (e.2.2≥last))=false)
  (hover:oldOf since seen es=[]→K (.tuple [.bool false]) A)
  (hstep:∀ k v b,(k,v,b)∈oldOf since seen es++newOf' since seen es→K (.tuple [.bool true,k,v]) (A.put f (.iter (.map (some g) since (seen++[b]) clock)))):OpAny P M0 n (.next false it) E A K:=by
 intro o hc F m a w R e next Q k
 have hop:o.op=.next it false:=by
  rcases compOp_cases hc with h|h|h
  ·exfalso
   generalize o.op=op at h
   cases op<;>simp only[compOpA,compEq] at h<;>(repeat' split at h)<;>first|(cases h;done)|(simp only[Option.map_eq_some_iff] at h;obtain⟨_,_,h⟩:=h;cases h)
  ·have hb:=compOpB_spec h
   generalize hop:o.op=op at hb
   cases hb
   rfl
  ·cases h
 obtain⟨l,ob,h1,h0,h2,h3,h4,h5⟩:=R.iterAt hg hx (qcq e it)
 simp only[ItrR] at h5
 obtain⟨lg,k1,rfl⟩:=h5
 obtain⟨l2,es',j1,j2,j3,j4⟩:=R.got g _ hgm
 rw[k1] at j1
 cases j1
 have hgone':(!seen.toArray.isEmpty&&!es'.isEmpty&&es'.all fun e=>decide (e.born≥last))=false:=by
  rw[←hgone,j4.isEmpty,j4.all (fun b=>decide (b≥last))]
  simp[←Array.isEmpty_toList,←Array.all_toList]
 have hold:=(j4.filter (fun b=>!seen.contains b)).filter (fun b=>decide (b<since))
 have hnew:=(j4.filter (fun b=>!seen.contains b)).filter (fun b=>decide (b≥since))
 have eold:(candO since seen es').toList=((es'.toList.filter fun e=>!seen.contains e.born).filter fun e=>decide (e.born<since)):=by simp[candO]
 have enew:(candN since seen es').toList=((es'.toList.filter fun e=>!seen.contains e.born).filter fun e=>decide (e.born≥since)):=by simp[candN]
 rw[←eold] at hold
 rw[←enew] at hnew
 have hold:MapR m (oldOf since seen es) _:=hold
 have hnew:MapR m (newOf' since seen es) _:=hnew
 have gi:=run_getObj_any (P:=P) h3 (fun _ _ _ h=>by cases h)
 have gm:=run_getObj_any (P:=P) j2 (fun _ _ _ h=>by cases h)
 have hrun:(execOp a.eval o).run P w=((choose (.mapNext (((if (candO since seen es').isEmpty then #[none] else #[])++(candO since seen es'++candN since seen es').map some):Array (Option MapEntry)).size)).run P w).andThen fun i w'=>
   ((match (((if (candO since seen es').isEmpty then #[none] else #[])++(candO since seen es'++candN since seen es').map some):Array (Option MapEntry))[i]? with
     | some (some e)=>(do setObj l.cb (.mapIter (some lg.cb) since (seen.toArray.push e.born) clock);pure (.tuple #[.bool true,e.key,e.val]):Sem Value)
     | some none=>pure (.tuple #[.bool false])
     | none=>stuck "Next: no such candidate").run P w').andThen fun v w'=>.ok (.value v) w':=by
  simp only[execOp,hop,Instr.next,h2,Sem.run_bind,gi,Result.andThen_ok,gm,hgone',Bool.false_eq_true,if_false]
  show Result.andThen (Result.andThen _ _) _=_
  unfold candO candN
  generalize (choose _).run P w=r
  cases r<;>rfl
 generalize candO since seen es'=OLD at *
 generalize candN since seen es'=NEW at *
 generalize hC:(((if OLD.isEmpty then #[none] else #[])++(OLD++NEW).map some):Array (Option MapEntry))=C at *
 have hCpos:0<C.size:=by
  rw[←hC]
  cases hO:OLD.isEmpty with
  | true=>simp;omega
  | false=>
   have:OLD.size≠0:=by simpa[Array.isEmpty] using hO
   simp
   omega
 have pick:∀ (w':World),Rel F m A w'→w'.heap=w.heap→∀ i,i<C.size→∃ c w2 v B,(match C[i]? with
    | some (some e)=>(do setObj l.cb (.mapIter (some lg.cb) since (seen.toArray.push e.born) clock);pure (.tuple #[.bool true,e.key,e.val]):Sem Value)
    | some none=>pure (.tuple #[.bool false])
    | none=>stuck "Next: no such candidate").run P w'=.ok c w2∧Rel F m B w2∧slotR m v c∧K v B:=by
  intro w' R' hw i hi
  have hg':=Array.getElem?_eq_getElem hi
  rw[hg']
  have hmem:C[i]∈C:=Array.getElem_mem hi
  generalize C[i]=x at *
  rw[←hC,Array.mem_append] at hmem
  cases x with
  | none=>
   have hO:OLD.isEmpty=true:=by
    rcases hmem with h|h
    ·cases hO:OLD.isEmpty with
     | true=>rfl
     | false=>rw[hO] at h;simp at h
    ·simp at h
   have:oldOf since seen es=[]:=by
    have hl:=hold.length
    have:OLD.toList=[]:=by simpa using hO
    rw[this] at hl
    simpa using hl
   exact⟨_,w',_,A,rfl,R',.inr rfl,hover this⟩
  | some e=>
   have hin:e∈OLD.toList++NEW.toList:=by
    rcases hmem with h|h
    ·split at h<;>simp at h
    ·simpa using h
   have hmem2:∀ {es:List (AV × AV × Nat)} {l:List MapEntry},MapR m es l→e∈l→∃ k v b,(k,v,b)∈es∧cvo m k=some e.key∧cvo m v=some e.val∧e.born=b:=by
    intro es l
    induction es generalizing l with
    | nil=>intro h hm;rw[h.nil_inv] at hm;simp at hm
    | cons x es ih=>
     intro h hm
     cases l with
     | nil=>exact h.elim
     | cons e' l=>
      obtain⟨k,v,b⟩:=x
      rcases List.mem_cons.1 hm with rfl|hm
      ·exact⟨k,v,b,List.mem_cons_self,h.1⟩
      ·obtain⟨k',v',b',q1,q2⟩:=ih h.2 hm
       exact⟨k',v',b',List.mem_cons_of_mem _ q1,q2⟩
   have hf:∃ k v b,(k,v,b)∈oldOf since seen es++newOf' since seen es∧cvo m k=some e.key∧cvo m v=some e.val∧e.born=b:=by
    rcases List.mem_append.1 hin with h|h
    ·obtain⟨k,v,b,q1,q2⟩:=hmem2 hold h
     exact⟨k,v,b,List.mem_append_left _ q1,q2⟩
    ·obtain⟨k,v,b,q1,q2⟩:=hmem2 hnew h
     exact⟨k,v,b,List.mem_append_right _ q1,q2⟩
   obtain⟨kk,vv,bb,q1,q2,q3,q4⟩:=hf
   have h3':w'.heap[l.cb]?=some (.mapIter (some lg.cb) since seen.toArray last):=by rw[hw];exact h3
   have si:=run_setObj_any (P:=P) (w:=w') (.mapIter (some lg.cb) since (seen.toArray.push e.born) clock) h3' (fun _ _ _ h=>by cases h)
   have hpush:seen.toArray.push e.born=(seen++[bb]).toArray:=by rw[q4];simp
   refine⟨.tuple #[.bool true,e.key,e.val],w'.putObj l.cb (.mapIter (some lg.cb) since (seen++[bb]).toArray clock),.tuple [.bool true,kk,vv],A.put f (.iter (.map (some g) since (seen++[bb]) clock)),?_,
    R'.put_obj hg rfl h1 h4 h3' (fun _ _ _ h=>by cases h) ⟨l,_,⟨h1,h0⟩,World.putObj_heap_same (Array.getElem?_eq_some_iff.1 h3').1,h4,lg,k1,rfl⟩,.inr (by simp[cvo,cvos,q2,q3]),hstep _ _ _ q1⟩
   dsimp only
   rw[Sem.run_bind,si,hpush]
   rfl
 have fin:∀ (w':World),Rel F m A w'→w'.heap=w.heap→∀ i,i<C.size→(choose (.mapNext C.size)).run P w=.ok i w'→o.wpIn Fence.wide 0 P a w next Q:=by
  intro w' R' hw i hi hch
  obtain⟨c,w2,v,B,g1,g2,g3,g4⟩:=pick w' R' hw i hi
  refine wpIn_of_wp (.inl rfl) (fun c h=>by rw[hop] at h;cases h) ?_
  unfold Oper.wp
  rw[hrun,hch,Result.andThen_ok,g1,Result.andThen_ok]
  exact k c m w2 v B (Mu.le_refl m) g2 g3 g4
 by_cases hfo:(Question.mapNext C.size).forced=true
 ·exact fin w R rfl 0 hCpos (by simp[choose,Sem.run,hfo])
 ·have hfo:(Question.mapNext C.size).forced=false:=by simpa using hfo
  exact fin w.drew R.drew rfl _ (Nat.mod_lt (w.tape w.drawn (.mapNext C.size)) hCpos) (by simp[choose,Sem.run,hfo];rfl)
end
open Go.Sort

section
variable {α:Type} (le:α→α→Bool)
def insB (x:α):List α→List α
 | []=>[x]
 | y::l=>bif le x y then x::y::l else y::insB x l
def sortB:List α→List α
 | []=>[]
 | x::l=>insB le x (sortB l)
theorem insB_perm (x:α):∀ l,List.Perm (insB le x l) (x::l)
 | []=>List.Perm.refl _
 | y::l=>by
  unfold insB
  cases le x y with
  | true=>exact List.Perm.refl _
  | false=>exact ((insB_perm x l).cons y).trans (List.Perm.swap x y l)
theorem qrq:∀ l,List.Perm (sortB le l) l
 | []=>List.Perm.refl _
 | x::l=>(insB_perm le x _).trans ((qrq l).cons x)
theorem insB_pairwise (htr:∀ a b c,le a b=true→le b c=true→le a c=true) (htot:∀ a b,(le a b||le b a)=true) (x:α):∀ l,List.Pairwise (fun a b=>le a b=true) l→List.Pairwise (fun a b=>le a b=true) (insB le x l)
 | [],_=>List.pairwise_singleton _ _
 | y::l,h=>by
  unfold insB
  obtain⟨h1,h2⟩:=List.pairwise_cons.1 h
  cases hxy:le x y with
  | true=>
   rw[cond_true]
   refine List.pairwise_cons.2 ⟨fun z hz=>?_,h⟩
   rcases List.mem_cons.1 hz with rfl|hz
   ·exact hxy
   ·exact htr _ _ _ hxy (h1 z hz)
  | false=>
   rw[cond_false]
   refine List.pairwise_cons.2 ⟨fun z hz=>?_,insB_pairwise htr htot x l h2⟩
   have:=(insB_perm le x l).mem_iff.1 hz
   rcases List.mem_cons.1 this with rfl|hz
   ·have:=htot z y
    rw[hxy,Bool.false_or] at this
    exact this
   ·exact h1 z hz
theorem sortB_pairwise (htr:∀ a b c,le a b=true→le b c=true→le a c=true) (htot:∀ a b,(le a b||le b a)=true):∀ l,List.Pairwise (fun a b=>le a b=true) (sortB le l)
 | []=>List.Pairwise.nil
 | x::l=>insB_pairwise le htr htot x _ (sortB_pairwise htr htot l)
theorem sortB_eq (htr:∀ a b c,le a b=true→le b c=true→le a c=true) (htot:∀ a b,(le a b||le b a)=true) (hanti:∀ a b,le a b=true→le b a=true→a=b) {l k:List α} (h:List.Perm k l):k.mergeSort le=sortB le l:=
 List.Perm.eq_of_pairwise (fun a b _ _=>hanti a b) (List.pairwise_mergeSort htr htot k) (sortB_pairwise le htr htot l) ((List.mergeSort_perm k le).trans (h.trans (qrq le l).symm))
end
def leI (a b:Int):Bool:=decide (a≤b)
def leS (a b:List UInt8):Bool:=!bytesLess b a
theorem leS_eq (a b:List UInt8):leS a b=decide (a≤b):=by
 unfold leS
 rw[Go.AM.bytesLess_eq,Go.Proofs.bytesLess_eq]
 by_cases h:a≤b
 ·rw[decide_eq_true h,decide_eq_false (by rw[List.not_lt];exact h)];rfl
 ·rw[decide_eq_false h,decide_eq_true (by rw[←List.not_lt] at h;exact Decidable.not_not.1 h)];rfl
theorem sortI_eq {l k:List Int} (h:List.Perm k l):k.mergeSort (fun x y=>decide (x≤y))=sortB leI l:=
 sortB_eq leI (fun a b c h1 h2=>by simp only[leI,decide_eq_true_eq] at *;omega) (fun a b=>by simp only[leI,Bool.or_eq_true,decide_eq_true_eq];omega) (fun a b h1 h2=>by simp only[leI,decide_eq_true_eq] at *;omega) h
theorem sortS_eq {l k:List (List UInt8)} (h:List.Perm k l):k.mergeSort (fun x y=>decide (x≤y))=sortB leS l:=by
 have e:(fun x y:List UInt8=>decide (x≤y))=leS:=by funext a b;exact (leS_eq a b).symm
 rw[e]
 refine sortB_eq leS (fun a b c h1 h2=>?_) (fun a b=>?_) (fun a b h1 h2=>?_) h
 ·rw[leS_eq,decide_eq_true_eq] at *
  exact List.le_trans h1 h2
 ·rw[leS_eq,leS_eq,Bool.or_eq_true,decide_eq_true_eq,decide_eq_true_eq]
  exact List.le_total a b
 ·rw[leS_eq,decide_eq_true_eq] at *
  exact List.le_antisymm h1 h2

theorem mapBlock_nil (w:World) (b:Nat):mapBlock w b (fun c=>c)=w:=mapBlock_id w b _ (fun _ _ _ _=>rfl)
def setL:Nat→List Value→Array Value→Array Value
 | _,[],c=>c
 | o,v::r,c=>setL (o+1) r (c.setIfInBounds o v)
theorem setCells_map (b:Nat):∀ (vs:List Value) (o:Nat) (w:World),w.setCells b o vs=mapBlock w b (setL o vs)
 | [],o,w=>by
  show w=mapBlock w b (fun c=>c)
  exact (mapBlock_nil w b).symm
 | v::r,o,w=>by
  show (w.setCell ⟨b,o,none⟩ v).setCells b (o+1) r=_
  rw[setCells_map b r,setCell_eq,mapBlock_mapBlock]
  rfl
theorem setL_size:∀ (vs:List Value) (o:Nat) (c:Array Value),(setL o vs c).size=c.size
 | [],_,_=>rfl
 | v::r,o,c=>by
  show (setL (o+1) r (c.setIfInBounds o v)).size=_
  rw[setL_size r,Array.size_setIfInBounds]
theorem setL_get:∀ (vs:List Value) (o:Nat) (c:Array Value) (k:Nat),(setL o vs c)[k]?=if o≤k∧k<o+vs.length∧k<c.size then vs[k - o]? else c[k]?
 | [],o,c,k=>by
  rw[if_neg (by simp;omega)]
  rfl
 | v::r,o,c,k=>by
  show (setL (o+1) r (c.setIfInBounds o v))[k]?=_
  rw[setL_get r,Array.size_setIfInBounds]
  by_cases hk:k=o
  ·subst hk
   rw[if_neg (by omega)]
   by_cases hs:k<c.size
   ·rw[if_pos ⟨Nat.le_refl _,by simp,hs⟩]
    simp[hs]
   ·rw[if_neg (by omega)]
    simp[hs]
  ·by_cases h:o+1≤k∧k<o+1+r.length∧k<c.size
   ·rw[if_pos h,if_pos ⟨by omega,by simp only[List.length_cons];omega,h.2.2⟩]
    obtain⟨d,rfl⟩:∃ d,k=o+1+d:=⟨k - (o+1),by omega⟩
    rw[show o+1+d - (o+1)=d by omega,show o+1+d - o=d+1 by omega]
    rfl
   ·rw[if_neg h,if_neg (by simp only[List.length_cons];omega),Array.getElem?_setIfInBounds_ne (by omega)]
theorem putRow_set {α:Type} [Inhabited α] (enc:α→Value) (w:World) (b o:Nat) (d:Array α):putRow enc w b o d=w.setCells b o (d.toList.map enc):=by
 rw[setCells_map]
 unfold putRow
 refine mapBlock_congr w b _ _ fun c e fr _=>?_
 apply Array.ext_getElem?
 intro k
 rw[setL_get]
 unfold putCells
 rw[Array.getElem?_mapIdx]
 by_cases hk:k<c.size
 ·rw[Array.getElem?_eq_getElem hk]
  by_cases h:o≤k∧k<o+d.size
  ·rw[if_pos ⟨h.1,by simpa using h.2,hk⟩]
   have hd:k - o<d.size:=by omega
   simp[h,hd]
  ·rw[if_neg (by simp;omega)]
   simp[h]
 ·rw[Array.getElem?_eq_none (by omega),if_neg (by omega)]
  rfl

section
variable {F:Fr} {m:Mu} {A:St} {w:World}
theorem Rel.sameHeap (R:Rel F m A w) {w':World} (hh:w'.heap=w.heap) (ho:w'.os=w.os) (ho2:w'.output=w.output):Rel F m A w':=
 ⟨fun f v l h=>by rw[hh];exact R.dom f v l h,fun f b h=>blkR_mono (Mu.le_refl m) (fun _ h=>h) (R.got f b h) fun _ _ _=>by rw[hh],fun cb o h=>by rw[hh];exact R.keep cb o h,by rw[ho,ho2];exact R.rest,R.apart,
  fun f v l h1 h2 c e fz h3=>R.unf f v l h1 h2 c e fz (by rw[←hh];exact h3),R.same,R.orig,R.frm⟩
theorem Rel.grown (R:Rel F m A w) (os:Array Obj):Rel F m A (grow w os):=by
 have hold:∀ cb,cb<w.heap.size→(grow w os).heap[cb]?=w.heap[cb]?:=fun cb h=>by
  show (w.heap++os)[cb]?=_
  rw[Array.getElem?_append_left h]
 refine⟨fun f v l h=>?_,fun f b h=>blkR_mono (Mu.le_refl m) (fun _ h=>h) (R.got f b h) fun _ _ hm=>hold _ (R.dom _ _ _ hm).2,fun cb o h=>?_,R.rest,R.apart,fun f v l h1 h2 c e fz h3=>R.unf f v l h1 h2 c e fz (by rw[←hold _ (R.dom _ _ _ h1).2];exact h3),R.same,R.orig,R.frm⟩
 ·have:=R.dom f v l h
  refine⟨this.1,?_⟩
  show l.cb<(w.heap++os).size
  rw[Array.size_append]
  omega
 ·have hk:=R.keep cb o h
  rw[hold cb (Array.getElem?_eq_some_iff.1 hk).1]
  exact hk
end

def intsOf:List AV→Option (List Int)
 | []=>some []
 | .int .i64 n::l=>match intsOf l with|some r=>some (n::r)|none=>none
 | _=>none
theorem intsOf_eq:∀ {l:List AV} {zs:List Int},intsOf l=some zs→l=zs.map (AV.int .i64)
 | [],zs,h=>by cases h;rfl
 | a::l,zs,h=>by
  unfold intsOf at h
  split at h
  ·rename_i heq;cases heq
  ·rename_i n l' heq
   cases heq
   split at h
   ·rename_i r hr;cases h;rw[intsOf_eq hr];rfl
   ·cases h
  ·cases h
def sortX {α:Type} (dec:List AV→Option (List α)) (enc:α→AV) (le:α→α→Bool) (A:St) (s:AV):Option (AV × St):=
 match s with
 | .slice none _ 0 _ _=>some (.tuple [],A)
 | .slice (some p) _ len _ _=>if len=0 then some (.tuple [],A) else if 4611686018427387904≤len then none else match A.cells p len with
  | some l=>match dec l with
   | some zs=>match A.write p ((sortB le zs).map enc) with
    | some B=>some (.tuple [],B)
    | none=>none
   | none=>none
  | none=>none
 | _=>none
def sortIX:St→AV→Option (AV × St):=sortX intsOf (AV.int .i64) leI
theorem intsOf_map:∀ (zs:List Int),intsOf (zs.map (AV.int .i64))=some zs
 | []=>rfl
 | z::zs=>by simp only[List.map_cons,intsOf,intsOf_map zs]
theorem Own.sorted {α:Type} {dec:List AV→Option (List α)} {enc:α→AV} {le:α→α→Bool} (hd:∀ zs,dec (zs.map enc)=some zs) (hf:∀ z,(enc z).flat=true) {lo:Nat} {A:St} {s:AV} {zs:List α} (h:Own lo A 1 s (zs.map enc)) (hl:zs.length<4611686018427387904) :
  ∃ B,sortX dec enc le A s=some (.tuple [],B)∧Own lo B 1 s ((sortB le zs).map enc)∧But A B s:=by
 have hsp:=(qrq le zs).length_eq
 generalize hcs:zs.map enc=cs at h
 cases h with
 | nil po cap q=>
  have:zs=[]:=by simpa using hcs
  subst this
  exact⟨A,rfl,.nil _ _ _,But.refl A _⟩
 | @mem f v o po len cap q all vers nv y hlo hf' hg hv h1 h2 h3 hq=>
  have hlen:zs.length=len:=by
   have:=congrArg List.length hcs
   rw[List.length_map,List.length_take,List.length_drop] at this
   omega
  by_cases h0:len=0
  ·have:zs=[]:=by
    cases zs with
    | nil=>rfl
    | cons z zs=>simp at hlen;omega
   subst this
   refine⟨A,by simp[sortX,h0],?_,But.refl A _⟩
   have e:(sortB le ([]:List α)).map enc=(all.drop o).take (len*1):=by simp[sortB,h0]
   rw[e]
   exact .mem hlo hf' hg hv h1 h2 h3 hq
  ·have hcell:A.cells (f,v,o) len=some (zs.map enc):=by
    have:=(Own.mem (po:=po) (cap:=cap) (q:=q) hlo hf' hg hv h1 h2 h3 hq).sl
    cases this with
    | mem _ hc _=>rw[hcs];simpa using hc
   have hsl:((sortB le zs).map enc).length=len:=by rw[List.length_map,hsp,hlen]
   have hlook:A.look (f,v,o)=some (all,y,nv,false):=by
    unfold St.look;dsimp only;rw[hg];dsimp only;rw[hv];rfl
   have hw:A.write (f,v,o) ((sortB le zs).map enc)=some (A.put f (.cells (splice all o ((sortB le zs).map enc)) [y] nv false)):=by
    unfold St.write
    rw[hlook]
    dsimp only
    rw[if_pos ⟨h1,by rw[hsl];omega,h3,by simp[hf]⟩]
   refine⟨A.put f (.cells (splice all o ((sortB le zs).map enc)) [y] nv false),?_,?_,but_put _⟩
   ·unfold sortX
    dsimp only
    rw[if_neg h0,if_neg (by omega),hcell]
    dsimp only
    rw[hd]
    dsimp only
    rw[hw]
   ·have hy:=(qwq hv).2
    have e:=grown_cells (all:=all) (ds:=(sortB le zs).map enc) (rest:=all.drop (o+((sortB le zs).map enc).length)) (o:=o) (a:=0) (b:=len*1) (by omega) (by rw[hsl,Nat.mul_one])
    simp only[List.take_zero,List.nil_append,Nat.add_zero,Nat.zero_add] at e
    have e':((splice all o ((sortB le zs).map enc)).drop o).take (len*1)=(sortB le zs).map enc:=e
    have key:Own lo (A.put f (.cells (splice all o ((sortB le zs).map enc)) [y] nv false)) 1 (.slice (some (f,v,o)) po len cap q) (((splice all o ((sortB le zs).map enc)).drop o).take (len*1)):=
     .mem hlo hf' (by rw[St.get_put,if_pos rfl]) (by simp[findVer,hy]) h1 h2 (by rw[splice_length all _ _ (by rw[hsl];omega)];exact h3) hq
    rw[e'] at key
    exact key

structure SegD where
 b:List UInt8
 syn:Nat
structure TpD where
 room:Int
 segs:List (Int × SegD)
 fuse:Int
 down:Bool

def usedL:List (Int × SegD)→Nat
 | []=>0
 | x::l=>x.2.b.length+usedL l
def TpD.free (t:TpD):Int:=max (t.room - usedL t.segs) 0
def TpD.spend (t:TpD):Bool × TpD:=
 if t.fuse=0 then (false,{ t with down:=true }) else if 0<t.fuse then (true,{ t with fuse:=t.fuse - 1 }) else (true,t)
def TpD.there (t:TpD) (seg:Int) (made:Bool):Int:=
 if seg<0∨1048576<seg then 2 else if t.down then 8 else if made=false∧assoc seg t.segs=none then 3 else 0
def TpD.change (t:TpD) (seg:Int) (s:SegD):Int × TpD:=
 match t.spend with
 | (true,t')=>(0,{ t' with segs:=putA seg s t'.segs })
 | (false,t')=>(8,t')
def roomP:Int→List (List UInt8)→Bool
 | _,[]=>true
 | f,p::l=>decide ((p.length:Int)≤f)&&roomP (f - p.length) l
def TpD.fits (t:TpD) (seg:Int) (parts:List (List UInt8)):Int:=
 if roomP t.free parts=false then 5 else if assoc seg t.segs=none∧64≤t.segs.length then 5 else 0
def TpD.seg (t:TpD) (k:Int):SegD:=(assoc k t.segs).getD ⟨[],0⟩
def TpD.append (t:TpD) (seg:Int) (parts:List (List UInt8)):Int × TpD:=
 if t.there seg true≠0 then (t.there seg true,t) else if t.fits seg parts≠0 then (t.fits seg parts,t) else
 t.change seg ⟨(t.seg seg).b++parts.flatten,(t.seg seg).syn⟩
def TpD.sync (t:TpD) (seg:Int):Int × TpD:=
 if t.there seg false≠0 then (t.there seg false,t) else t.change seg ⟨(t.seg seg).b,(t.seg seg).b.length⟩
def TpD.trim (t:TpD) (seg n:Int):Int × TpD:=
 if t.there seg false≠0 then (t.there seg false,t) else if n<0∨(t.seg seg).b.length<n then (2,t) else
 t.change seg ⟨(t.seg seg).b.take n.toNat,min (t.seg seg).syn n.toNat⟩
def TpD.drop (t:TpD) (seg:Int):Int × TpD:=
 if t.there seg false≠0 then (t.there seg false,t) else
 match t.spend with
 | (true,t')=>(0,{ t' with segs:=delA seg t'.segs })
 | (false,t')=>(8,t')
def TpD.keys (t:TpD):List Int:=sortB leI (keysA t.segs)
def TpD.len (t:TpD) (seg:Int):Nat:=(t.seg seg).b.length
def lasts (s:SegD) (k:Option Int):SegD:=
 let n:=s.syn+(match k with|some x=>min (max x 0).toNat (s.b.length - s.syn)|none=>0)
 ⟨s.b.take n,n⟩
def crashL (t:TpD):List Int→List Int→List (Int × SegD)
 | [],_=>[]
 | k::ks,keeps=>(if 0<(lasts (t.seg k) keeps.head?).syn then [(k,lasts (t.seg k) keeps.head?)] else [])++crashL t ks keeps.tail
def TpD.crash (t:TpD) (keeps:List Int):TpD:=⟨t.room,crashL t t.keys keeps,-1,false⟩
def TpD.fuseTo (t:TpD) (n:Int):TpD:=if t.down then t else { t with fuse:=max n (-1) }
def tpNew (room:Int):TpD:=⟨room,[],-1,false⟩

structure JoD where
 t:TpD
 seg:Int
 cur:Int
 state:List UInt8
 recs:List (List UInt8)
def JoD.roll (j:JoD) (n:Nat):Int × Int × TpD:=
 if j.cur<0 then (0,0,j.t) else
 if j.t.len j.cur=0∨(n:Int)≤j.seg - j.t.len j.cur then (j.cur,0,j.t) else (j.cur+1,j.t.sync j.cur)
def rawOf:List (List UInt8)→Option (List UInt8)
 | []=>some []
 | r::l=>if 16383<r.length then none else match rawOf l with|some x=>some (frame (0::r)++x)|none=>none
def JoD.add (j:JoD) (rs:List (List UInt8)):Int × JoD:=
 if rs=[] then (0,j) else
 match rawOf rs with
 | none=>(7,j)
 | some raw=>
  let r:=j.roll raw.length
  if r.2.1≠0 then (r.2.1,{ j with t:=r.2.2 }) else
  let a:=r.2.2.append r.1 [raw]
  if a.1≠0 then (a.1,{ j with t:=a.2 }) else (0,{ j with t:=a.2,cur:=r.1,recs:=j.recs++rs })
def JoD.sync (j:JoD):Int × JoD:=
 if j.cur<0 then (0,j) else ((j.t.sync j.cur).1,{ j with t:=(j.t.sync j.cur).2 })
def JoD.write (j:JoD) (rs:List (List UInt8)):Int × JoD:=
 if (j.add rs).1≠0 then j.add rs else (j.add rs).2.sync
def clearL (cur:Int):List Int→TpD→Int × TpD
 | [],t=>(0,t)
 | k::ks,t=>if k<cur then (if (t.drop k).1≠0 then t.drop k else clearL cur ks (t.drop k).2) else clearL cur ks t
def JoD.save (j:JoD) (state:List UInt8):Int × JoD:=
 if 16383<state.length then (7,j) else
 let s:=j.sync
 if s.1≠0 then s else
 let a:=s.2.t.append (j.cur+1) [frame (1::state)]
 if a.1≠0 then (a.1,{ j with t:=a.2 }) else
 let b:=a.2.sync (j.cur+1)
 if b.1≠0 then (b.1,{ j with t:=(b.2.drop (j.cur+1)).2 }) else
 let c:=clearL (j.cur+1) b.2.keys b.2
 (c.1,{ j with t:=c.2,cur:=j.cur+1,state:=state,recs:=[] })

def isSaved:List (List UInt8)→Bool
 | (c::_)::_=>c == 1
 | _=>false
def tailH:List (List UInt8)→List UInt8
 | (_::r)::_=>r
 | _=>[]
def plainOf:List (List UInt8)→List (List UInt8)
 | []=>[]
 | (c::r)::l=>if c=0 then r::plainOf l else plainOf l
 | []::l=>plainOf l
def mendL:List Int→TpD→Int × Int × TpD
 | [],t=>(0,-1,t)
 | k::ks,t=>
  if bodies (t.seg k).b≠[] then
   (if span (bodies (t.seg k).b)<(t.seg k).b.length then ((t.trim k (span (bodies (t.seg k).b))).1,k,(t.trim k (span (bodies (t.seg k).b))).2) else (0,k,t))
  else if (t.drop k).1≠0 then ((t.drop k).1,-1,(t.drop k).2) else mendL ks (t.drop k).2
def firstL (t:TpD):Nat→List Int→Nat→Nat
 | _,[],f=>f
 | i,k::ks,f=>firstL t (i+1) ks (if isSaved (bodies (t.seg k).b) then i else f)
def loadL (first:Nat):Nat→List Int→JoD→Int × JoD
 | _,[],j=>(0,j)
 | i,k::ks,j=>
  if i<first then (if (j.t.drop k).1≠0 then ((j.t.drop k).1,{ j with t:=(j.t.drop k).2 }) else loadL first (i+1) ks { j with t:=(j.t.drop k).2 })
  else
   let l:=bodies (j.t.seg k).b
   let st:=if i=first∧isSaved l=true then (tailH l) else j.state
   loadL first (i+1) ks { j with state:=st,recs:=j.recs++plainOf l }
def joOpen (t:TpD) (seg:Int):Int × Option JoD:=
 if seg<16∨1048576<seg then (2,none) else
 let m:=mendL t.keys.reverse t
 if m.1≠0 then (m.1,none) else
 let l:=loadL (firstL m.2.2 0 m.2.2.keys 0) 0 m.2.2.keys ⟨m.2.2,seg,m.2.1,[],[]⟩
 if l.1≠0 then (l.1,none) else (0,some l.2)
end Go.AM
namespace Go.Proofs.YtlaoookdegmnnaaGreatDoor
open Go.AM
variable {D:Disp} {G0:Env} {X:Calls'}

theorem sum_spec {A:St} {s:AV} {ps:List AV} {ls:List (List UInt8)} (hs:Sl A 1 s ps) (hp:PartsB A ps ls) (hl:ps.length<2^62) (hll:∀ l∈ls,l.length<2^62) :
  Ev D G0 fnsL X 265 [s] A fun r B=>B=A∧r=.int .u32 (crcSum ls.flatten:Nat):=by
 refine Ev.fnK (fn:=a265) rfl ⟨by simp[a265],by decide⟩ ?_
 unfold a265
 simp[hs.lenV1]
 refine Wp.loopK (fun d E A'=>A=A'∧Env.at E 8=s∧Env.at E 9=.int .i64 ps.length∧∃ i:Nat,Env.at E 10=.int .i64 i∧i+d=ps.length∧Env.at E 3=.int .u32 (crcAll 4294967295 (ls.take i).flatten:Nat)) ps.length ?_ ?_
 ·exact⟨rfl,by simp,by simp,0,by simp,by simp,by simp[crcAll]⟩
 rintro d E _ ⟨rfl,e8,e9,i,e10,hi,e3⟩
 simp[e10,e9]
 refine qeq (fun hc=>?_) (fun hc=>?_)
 ·simp at hc
  obtain⟨v,l,hv,hl',hb⟩:=hp.get hc
  obtain⟨p,h1,h2⟩:=hs.at_one hv .i64
  simp[e8,e9,e10,h1,h2,hb.lenV]
  have hll':=hll l (List.mem_of_getElem? hl')
  refine Wp.loopK (fun d E A'=>A=A'∧Env.at E 8=s∧Env.at E 9=.int .i64 ps.length∧Env.at E 10=.int .i64 i∧Env.at E 14=v∧Env.at E 15=.int .i64 l.length∧∃ j:Nat,Env.at E 16=.int .i64 j∧j+d=l.length∧Env.at E 3=.int .u32 (crcAll 4294967295 ((ls.take i).flatten++l.take j):Nat)) l.length ?_ ?_
  ·exact⟨rfl,by simp[e8],by simp[e9],by simp[e10],by simp,by simp,0,by simp,by simp,by simp[e3]⟩
  rintro d1 E1 _ ⟨rfl,f8,f9,f10,f14,f15,j,f16,hj,f3⟩
  simp[f15,f16]
  refine qeq (fun hc1=>?_) (fun hc1=>?_)
  ·simp at hc1
   have hlj:l[j]?=some l[j]:=List.getElem?_eq_getElem hc1
   obtain⟨p1,g1,g2⟩:=hb.at_one (j:=j) (v:=byteV l[j]) (by simp[bytesV,hc1]) .i64
   have hlt:=crcAll_lt ((ls.take i).flatten++l.take j) (s:=4294967295) (by decide)
   generalize hS:crcAll 4294967295 ((ls.take i).flatten++l.take j)=S at *
   obtain⟨T,hT,eT⟩:=xor_byte hlt l[j]
   simp[f14,f15,f16,f3,g1,g2,conv_byte,eT,-qhq]
   refine Wp.loopK (fun d E A'=>A=A'∧Env.at E 8=s∧Env.at E 9=.int .i64 ps.length∧Env.at E 10=.int .i64 i∧Env.at E 14=v∧Env.at E 15=.int .i64 l.length∧Env.at E 16=.int .i64 j∧∃ n:Nat,Env.at E 24=.int .i64 n∧n+d=8∧Env.at E 3=.int .u32 (crcIt n T:Nat)) 8 ?_ ?_
   ·exact⟨rfl,by simp[f8],by simp[f9],by simp[f10],by simp[f14],by simp[f15],by simp[f16],0,by simp,by simp,by simp[crcIt]⟩
   rintro d2 E2 _ ⟨rfl,k8,k9,k10,k14,k15,k16,n,k24,hn,k3⟩
   simp[k24]
   have hlt2:=crcIt_lt n (hT ▸ xor_byte_lt hlt l[j])
   have hstep:=crcIt_succ n T
   generalize hxx:crcIt n T=x at *
   refine qeq (fun hc2=>?_) (fun hc2=>?_)
   ·simp at hc2
    obtain⟨y,hy,ey⟩:=and_one hlt2
    obtain⟨z,hz,ez⟩:=shr_one x
    obtain⟨u,hu,eu⟩:=xor_poly (x:=z) (by omega)
    have ea:=add_one (i:=n) (by omega)
    simp[k3,ey,ez,eu]
    refine qeq (fun hc3=>?_) (fun hc3=>?_)
    ·simp at hc3
     simp[k24,k3,ey,ez,eu,ea,-qbq]
     refine⟨d2 - 1,by omega,k8,k9,k10,k14,k15,k16,n+1,by omega,by omega,?_⟩
     rw[hstep,hu,hz]
     unfold crcBit
     rw[if_pos (by omega)]
    ·simp at hc3
     simp[k24,k3,ey,ez,eu,ea,-qbq]
     refine⟨d2 - 1,by omega,k8,k9,k10,k14,k15,k16,n+1,by omega,by omega,?_⟩
     rw[hstep,hz]
     unfold crcBit
     rw[if_neg (by omega)]
   ·simp at hc2
    have ea:=add_one (i:=j) (by omega)
    simp[k16,ea,-qbq]
    refine⟨d1 - 1,by omega,k8,k9,k10,k14,k15,j+1,by omega,by omega,?_⟩
    have hn8:n=8:=by omega
    rw[k3,←hxx,hn8,hT,take_succ_of hlj,←List.append_assoc,crcAll_append,hS]
    rfl
  ·simp at hc1
   have ea:=add_one (i:=i) (by omega)
   have hjl:j=l.length:=by omega
   simp[f10,ea,-qbq]
   refine⟨d - 1,by omega,f8,f9,i+1,by omega,by omega,?_⟩
   rw[f3,hjl,List.take_length,take_flatten_succ hl']
 ·simp at hc
  obtain⟨y,hy,ey⟩:=not_u32 (crcAll_lt (ls.take i).flatten (s:=4294967295) (by decide))
  simp[e3,ey]
  have hil:i=ls.length:=by rw[←hp.length];omega
  rw[hy,hil,List.take_length]
  rfl
variable {D:Disp} {G0:Env} {X:Calls'}

theorem equal_spec {A:St} {s t:AV} {l k:List UInt8} (hs:Bs A s l) (ht:Bs A t k) :
  Ev D G0 fnsL X 409 [s,t] A fun r B=>A=B∧r=.bool (decide (l=k)):=by
 refine Ev.fnK (fn:=a409) rfl ⟨by simp[a409],by decide⟩ ?_
 unfold a409
 simp[hs.text,ht.text]

theorem clone_spec {A:St} {s:AV} {l:List UInt8} (hs:Bs A s l) (hl:l.length<2^40) :
  Ev D G0 fnsL X 85 [s] A fun r B=>A.Ext B∧OwnB A.next B r l:=by
 refine Ev.fnK (fn:=a85) rfl ⟨by simp[a85],by decide⟩ ?_
 unfold a85
 obtain⟨b,hb,hb'⟩:=nil_test hs
 simp[hb]
 refine qeq (fun hc=>?_) (fun hc=>?_)
 ·have:l=[]:=by simpa[bytesV] using hb' hc
  subst this
  simp
  exact⟨St.Ext.refl A,.nil _ _ _⟩
 ·have ho:AM.Own A.next (A.make [] 1).2 1 (.slice (some (A.next,0,0)) 0 0 0 0) []:=by simpa using qtq A (cs:=[]) (sz:=1) (n:=0) (by simp) (Nat.le_refl _) (len:=0) (Nat.le_refl _)
  have hx:=Sl.ext (qdq A [] 1) hs
  obtain⟨s',B,h1,h2,h3,h4,h5⟩:=qpq (bytes:=1) ho hx (Nat.le_succ _) (by decide) (bytesV_flat l) (by have:=Bs.len hx;simp[AV.slen] at *;omega) (by have:=Bs.len hx;simp[AV.slen] at *;omega)
  simp[fillA,Made.value,h1,h3.sl.known]
  refine⟨⟨Nat.le_trans (Nat.le_succ _) h4.next,fun f hf=>?_⟩,by simpa using h3⟩
  rw[h4.get f (Nat.lt_succ_of_lt hf) (by simp[AV.into];omega)]
  exact (qdq A [] 1).get f hf
variable {D:Disp} {G0:Env} {X:Calls'}

def PeelR (A:St) (l:List UInt8) (r:AV) (B:St):Prop:=A.Ext B∧match peel l with
 | some m=>∃ v,r=.tuple [v,.int .i64 ((m.length+7:Nat):Int)]∧OwnB A.next B v m
 | none=>r=.tuple [.slice none 0 0 0 0,.int .i64 0]

theorem peel_spec {A:St} {s:AV} {l:List UInt8} (hs:Bs A s l) (hl:l.length<2^40) :
  Ev D G0 fnsL X 396 [s] A (PeelR A l):=by
 refine Ev.fnK (fn:=a396) rfl ⟨by simp[a396],by decide⟩ ?_
 unfold a396
 have el:=qoq .i64 l.length 7
 simp[-qjq] at el
 by_cases hc:l.length<7
 ·rw[decide_eq_true hc] at el
  simp[hs.lenV,el,-qjq,PeelR,peel_short hc]
  exact St.Ext.refl A
 rw[decide_eq_false hc] at el
 obtain⟨c0,c1,c2,t,hl3⟩:=three_of (Nat.le_of_not_lt hc)
 obtain⟨p0,a0,b0⟩:=hs.at_one (j:=0) (v:=byteV c0) (by rw[hl3];rfl) .i64
 obtain⟨p1,a1,b1⟩:=hs.at_one (j:=1) (v:=byteV c1) (by rw[hl3];rfl) .i64
 obtain⟨p2,a2,b2⟩:=hs.at_one (j:=2) (v:=byteV c2) (by rw[hl3];rfl) .i64
 have em:binOf .neq (byteV c0) (.int .u8 167)=some (.bool (decide (c0≠167))):=neq_byte c0 167
 simp at a0 a1 a2
 by_cases h0:c0≠167
 ·have hbad:peel l=none:=by
   rw[hl3,peel_cons,if_neg]
   exact fun h=>h0 h.2.2.1
  rw[decide_eq_true h0] at em
  simp[hs.lenV,el,a0,b0,em,-qjq,-bin_neq,PeelR,hbad]
  exact St.Ext.refl A
 have h0:c0=167:=Decidable.not_not.1 h0
 rw[decide_eq_false (fun h=>h h0)] at em
 simp[hs.lenV,el,a0,b0,em,-qjq,-bin_neq]
 refine Wp.draws ?_
 obtain⟨y,hy,ey⟩:=shl_byte c1
 obtain⟨n,hn,en⟩:=or_byte c1 c2 hy
 have hnl:=lenOf_lt c1 c2
 rw[←hn] at hnl
 have eg:=gtr_nat .i64 n 16384
 obtain⟨z1,hz1,ez1⟩:=sub_nat (a:=l.length) (b:=3) (by omega) (by omega)
 obtain⟨z2,hz2,ez2⟩:=sub_nat (a:=z1) (b:=4) (by omega) (by omega)
 have e2:=gtr_nat .i64 n z2
 obtain⟨w,hw,ew⟩:=add_nat (a:=3) (b:=n) (by omega) (by omega)
 obtain⟨z,hz,ez⟩:=add_nat (a:=w) (b:=4) (by omega) (by omega)
 simp[-qfq,-qbq,-qsq] at eg ez ew ez1 ez2
 have hbad:¬(n≤16384∧n≤z2)→peel l=none:=fun h=>peel_bad hl3 hn (fun h'=>h ⟨h'.1,by omega⟩)
 have hin:∀ {p:Pl} {c:UInt8},loadV A 1 false (.ptr (some p))=some (byteV c)→InAll [A,A,A,A,A,A,A,A,A,A,A,A] 0 11 (fun A'=>loadV A' 1 false (AV.ptr (some p))) (byteV c):=fun h=>by
  simp[InAll,h,byteV,AV.beq]
 by_cases hbig:n≤16384
 ·rw[decide_eq_false (by omega)] at eg
  by_cases hfit:n≤z2
  ·rw[decide_eq_false (by omega)] at e2
   simp[a1,a2,b1,b2,conv_byte64,ey,en,eg,e2,ez1,ez2,hs.lenV,-qhq,-qbq,-bin_mul,-qfq,-qjq,-qsq]
   refine⟨⟨hin b1,hin b2⟩,?_⟩
   obtain⟨s1,g1,g2,g3⟩:=Sl.cutTo hs (hi:=w) (by rw[hs.len];omega) (j:=.i64)
   obtain⟨s2,d1,d2,d3⟩:=Sl.cut hs (lo:=w) (hi:=z) (by omega) (by rw[hs.len];omega) (k:=.i64) (j:=.i64)
   obtain⟨s3,f1,f2,f3⟩:=Sl.cut hs (lo:=3) (hi:=w) (by omega) (by rw[hs.len];omega) (k:=.i64) (j:=.i64)
   simp at f1
   rw[Nat.mul_one,bytesV_take] at g3
   rw[Nat.mul_one,Nat.mul_one,bytesV_take,bytesV_drop] at d3 f3
   have hpf:=peel_sum hl3 hn h0 hbig (by omega)
   rw[←hw,show n+7=z by omega] at hpf
   have hml:((l.take w).drop 3).length=n:=by rw[List.length_drop,List.length_take];omega
   have hwl:(l.take w).length≤l.length:=by rw[List.length_take];omega
   generalize (l.take w).drop 3=m at *
   generalize l.take w=hd at *
   generalize (l.take z).drop w=tl at *
   simp[ew,g1,g3.notBot,g3.cells,fillA,splice,Made.value,qaq,allKnown,-qbq]
   have ho1:AM.Own A.next (A.make [s1] 1).2 1 (.slice (some (A.next,0,0)) 0 1 1 0) [s1]:=own_built A rfl
   have x1:=qdq A [s1] 1
   generalize (A.make [s1] 1).2=A1 at *
   refine (sum_spec (ls:=[hd]) ho1.sl ⟨Sl.ext x1 g3,trivial⟩ (by simp) (by simp;omega)).mono fun r B ⟨q1,q2⟩=>?_
   rw[q1,q2]
   simp only[List.flatten_cons,List.flatten_nil,List.append_nil]
   have hlt:=crcSum_lt hd
   generalize crcSum hd=S at *
   obtain⟨q1,hq1,eq1⟩:=shr_nat (k:=.u32) (j:=.u64) (a:=S) (s:=24) (by decide)
   obtain⟨q2,hq2,eq2⟩:=shr_nat (k:=.u32) (j:=.u64) (a:=S) (s:=16) (by decide)
   obtain⟨q3,hq3,eq3⟩:=shr_nat (k:=.u32) (j:=.u64) (a:=S) (s:=8) (by decide)
   simp at eq1 eq2 eq3
   have hcs2:[byteV (UInt8.ofNat q1),byteV (UInt8.ofNat q2),byteV (UInt8.ofNat q3),byteV (UInt8.ofNat S)]=bytesV (sumOf S):=by rw[hq1,hq2,hq3];rfl
   simp[ez,d1,eq1,eq2,eq3,conv_u8,-qhq,fillA,splice,Made.value,qaq,allKnown,d3.allKnown,-qbq,hcs2]
   have ho2:AM.Own A1.next (A1.make (bytesV (sumOf S)) 1).2 1 (.slice (some (A1.next,0,0)) 0 4 4 0) (bytesV (sumOf S)):=own_built A1 (by simp[sumOf])
   have x2:=qdq A1 (bytesV (sumOf S)) 1
   generalize (A1.make (bytesV (sumOf S)) 1).2=A2 at *
   have x12:=x1.trans x2
   refine (equal_spec (Sl.ext x12 d3) ho2.sl).mono fun r B ⟨q1,q2⟩=>?_
   rw[←q1,q2]
   simp
   refine qeq (fun hc=>?_) (fun hc=>?_)
   ·simp at hc
    rw[if_neg hc] at hpf
    simp[PeelR,hpf]
    exact x12
   ·simp at hc
    rw[if_pos hc] at hpf
    simp[f1,qaq,allKnown,f3.allKnown]
    refine (clone_spec (Sl.ext x12 f3) (by omega)).mono fun r B ⟨x3,o3⟩=>?_
    simp[ez,-qbq,o3.sl.known,PeelR,hpf]
    exact⟨x12.trans x3,r,⟨rfl,by omega⟩,o3.mono x12.next⟩
  ·rw[decide_eq_true (by omega)] at e2
   simp[a1,a2,b1,b2,conv_byte64,ey,en,eg,e2,ez1,ez2,hs.lenV,-qhq,-qbq,-bin_mul,-qfq,-qjq,-qsq,PeelR,hbad (fun h=>hfit h.2)]
   exact⟨⟨hin b1,hin b2⟩,St.Ext.refl A⟩
 ·rw[decide_eq_true (by omega)] at eg
  simp[a1,a2,b1,b2,conv_byte64,ey,en,eg,-qhq,-qbq,-bin_mul,-qfq,PeelR,hbad (fun h=>hbig h.1)]
  exact⟨⟨hin b1,hin b2⟩,St.Ext.refl A⟩
variable {D:Disp} {G0:Env} {X:Calls'}

def Apart (s:AV) (ps:List AV):Prop:=∀ f,s.into f=true→∀ v∈ps,v.into f=false
theorem PartsB.but {A B:St} {s:AV} (h:But A B s):∀ {vs:List AV} {ls:List (List UInt8)},Apart s vs→PartsB A vs ls→PartsB B vs ls
 | [],[],_,_=>trivial
 | v::_,_::_,ha,e=>⟨Sl.of_get e.1 h.next fun p po len cap q hv=>by
   have hf:=e.1
   rw[hv] at hf
   refine h.get _ (by cases hf;assumption) ?_
   cases hi:s.into p.1 with
   | false=>rfl
   | true=>
    have:=ha _ hi v List.mem_cons_self
    rw[hv] at this
    simp[AV.into] at this,PartsB.but h (fun f hf w hw=>ha f hf w (List.mem_cons_of_mem _ hw)) e.2⟩
 | [],_::_,_,h=>h.elim
 | _::_,[],_,h=>h.elim
theorem PartsB.snoc {A:St} {v:AV} {l:List UInt8} (h:Bs A v l):∀ {vs:List AV} {ls:List (List UInt8)},PartsB A vs ls→PartsB A (vs++[v]) (ls++[l])
 | [],[],_=>⟨h,trivial⟩
 | _::_,_::_,e=>⟨e.1,PartsB.snoc h e.2⟩
 | [],_::_,h=>h.elim
 | _::_,[],h=>h.elim
theorem PartsB.mem_into {A:St}:∀ {vs:List AV} {ls:List (List UInt8)},PartsB A vs ls→∀ v∈vs,∀ f,v.into f=true→f<A.next
 | [],[],_,v,hv,_,_=>by cases hv
 | w::_,_::_,e,v,hv,f,hf=>by
  rcases List.mem_cons.1 hv with rfl|hv
  ·exact Sl.into_lt e.1 hf
  ·exact PartsB.mem_into e.2 v hv f hf
 | [],_::_,h,_,_,_,_=>h.elim
 | _::_,[],h,_,_,_,_=>h.elim

def AllR (A:St) (l:List UInt8) (r:AV) (B:St):Prop:=A.Ext B∧∃ v ps,r=.tuple [v,.int .i64 (span (bodies l):Nat)]∧Sl B 1 v ps∧PartsB B ps (bodies l)∧(∀ f,v.into f=true→A.next≤f)∧∀ w∈ps,∀ f,w.into f=true→A.next≤f

theorem all_spec {A:St} {s:AV} {l:List UInt8} (hs:Bs A s l) (hl:l.length<2^40) :
  Ev D G0 fnsL X 351 [s] A (AllR A l):=by
 refine Ev.fnK (fn:=a351) rfl ⟨by simp[a351],by decide⟩ ?_
 unfold a351
 simp
 refine Wp.loopK (fun d E A'=>A.Ext A'∧Env.at E 0=s∧∃ (at':Nat) (out:AV) (ps:List AV) (ms:List (List UInt8)),Env.at E 4=out∧Env.at E 5=.int .i64 at'∧at'+d=l.length∧at'=span ms∧bodies l=ms++bodies (l.drop at')∧ms.length≤at'∧AM.Own A.next A' 1 out ps∧PartsB A' ps ms∧Apart out ps∧∀ w∈ps,∀ f,w.into f=true→A.next≤f) l.length ?_ ?_
 ·exact⟨St.Ext.refl A,by simp,0,.slice none 0 0 0 0,[],[],by simp,by simp,by simp,rfl,by simp,by simp,.nil _ _ _,trivial,(fun f hf=>by simp[AV.into] at hf),fun w hw=>by cases hw⟩
 rintro d E A' ⟨x,e0,a,out,ps,ms,e4,e5,hd,hsp,hbd,hml,hout,hps,hap,hnew⟩
 obtain⟨s1,g1,g2,g3⟩:=Sl.cutFrom (Sl.ext x hs) (lo:=a) (by rw[hs.len];omega) (k:=.i64)
 rw[Nat.mul_one,bytesV_drop] at g3
 have hdl:(l.drop a).length=d:=by rw[List.length_drop];omega
 generalize hk0:l.drop a=k at *
 simp[e0,e5,g1,qaq,allKnown,g3.allKnown]
 refine (peel_spec g3 (by omega)).mono fun r B ⟨x2,h⟩=>?_
 have xB:=x.trans x2
 cases hp:peel k with
 | none=>
  rw[hp] at h
  subst h
  simp[e4,e5,(hout.ext x2).sl.known]
  have hb:bodies l=ms:=by rw[hbd,bodies_none hp,List.append_nil]
  exact⟨xB,out,ps,by rw[hb,hsp],(hout.ext x2).sl,by rw[hb];exact hps.ext x2,fun f hf=>hout.into hf,hnew⟩
 | some m=>
  rw[hp] at h
  obtain⟨v,rfl,ho⟩:=h
  have hm:=(peel_len hp).1
  have hz:=eql_nat .i64 (m.length+7) 0
  rw[decide_eq_false (by omega)] at hz
  obtain⟨z,hz2,ez⟩:=add_nat (a:=a) (b:=m.length+7) (by omega) (by omega)
  generalize hk:m.length+7=kk at *
  simp[-qqq] at hz
  simp[hz,-qqq,e4,e5,fillA,splice,Made.value,ho.sl.cells,ho.sl.notBot]
  have ho1:AM.Own B.next (B.make [v] 1).2 1 (.slice (some (B.next,0,0)) 0 1 1 0) [v]:=own_built B rfl
  have x3:=qdq B [v] 1
  generalize (B.make [v] 1).2=B1 at *
  have xB1:=xB.trans x3
  have hol:out.slen=ms.length:=by rw[←hps.length,hout.sl.length,Nat.mul_one]
  have hout1:=(hout.ext x2).ext x3
  obtain⟨s4,B3,k1,k2,k3,k4,k5⟩:=qpq (bytes:=24) hout1 ho1.sl xB1.next (by decide) (by simp[ho.sl.flat]) (by rw[hol,qnq];omega) (by rw[hol,qnq];omega)
  simp[k1,e5,ez,-qbq]
  have hv1:Bs B1 v m:=Sl.ext x3 ho.sl
  have hpB1:=(hps.ext x2).ext x3
  have hap1:Apart out (ps++[v]):=fun f hf w hw=>by
   rcases List.mem_append.1 hw with hw|hw
   ·exact hap f hf w hw
   ·have hw:w=v:=by simpa using hw
    subst hw
    cases hi:w.into f with
    | false=>rfl
    | true=>
     have h1:=ho.into hi
     have h2:=Sl.into_lt hout.sl hf
     omega
  have hps1:=PartsB.snoc hv1 hpB1
  have hbk:bodies k=m::bodies (l.drop z):=by rw[bodies_some hp,←hk0,List.drop_drop,hk,hz2]
  refine⟨d - kk,by omega,k4.ext xB1 hout1,e0,z,rfl,by omega,ps++[v],ms++[m],?_,?_,?_,k3,PartsB.but k4 hap1 hps1,?_,?_⟩
  ·rw[span_append,hz2,hsp];simp[span];omega
  ·rw[hbd,hbk,List.append_assoc];rfl
  ·simp;omega
  ·intro f hf w hw
   rcases k5 f hf with h|h
   ·exact hap1 f h w hw
   ·cases hi:w.into f with
    | false=>rfl
    | true=>
     have:=PartsB.mem_into hps1 w hw f hi
     omega
  ·intro w hw f hf
   rcases List.mem_append.1 hw with hw|hw
   ·exact hnew w hw f hf
   ·have hw:w=v:=by simpa using hw
    subst hw
    exact Nat.le_trans x.next (ho.into hf)
end Go.Proofs.YtlaoookdegmnnaaGreatDoor
namespace Go.AM

@[simp] theorem isBot_int (k:IntKind) (n:Int):(AV.int k n).isBot=false:=rfl
@[simp] theorem isBot_bool (b:Bool):(AV.bool b).isBot=false:=rfl
@[simp] theorem isBot_str (s:List UInt8):(AV.str s).isBot=false:=rfl
@[simp] theorem isBot_ptr (p:Option Pl):(AV.ptr p).isBot=false:=rfl
@[simp] theorem isBot_map (p:Option Nat):(AV.map p).isBot=false:=rfl
@[simp] theorem isBot_agg (l:List AV):(AV.agg l).isBot=false:=rfl
@[simp] theorem isBot_iface (t:TypeId) (v:AV):(AV.iface t v).isBot=false:=rfl
@[simp] theorem isBot_nilIface:AV.nilIface.isBot=false:=rfl
@[simp] theorem isBot_slice (a:Option Pl) (po n c q:Nat):(AV.slice a po n c q).isBot=false:=rfl
@[simp] theorem cells_int (k:IntKind) (n:Int):(AV.int k n).cells=[AV.int k n]:=rfl
@[simp] theorem cells_bool (b:Bool):(AV.bool b).cells=[AV.bool b]:=rfl
@[simp] theorem cells_str (s:List UInt8):(AV.str s).cells=[AV.str s]:=rfl
@[simp] theorem cells_ptr (p:Option Pl):(AV.ptr p).cells=[AV.ptr p]:=rfl
@[simp] theorem cells_map (p:Option Nat):(AV.map p).cells=[AV.map p]:=rfl
@[simp] theorem cells_agg (l:List AV):(AV.agg l).cells=l:=rfl
@[simp] theorem cells_iface (t:TypeId) (v:AV):(AV.iface t v).cells=[AV.iface t v]:=rfl
@[simp] theorem cells_nilIface:AV.nilIface.cells=[AV.nilIface]:=rfl
@[simp] theorem cells_slice (a:Option Pl) (po n c q:Nat):(AV.slice a po n c q).cells=[AV.slice a po n c q]:=rfl

theorem Wp.envI {D:Disp} {G0:Env} {fns:Nat→Option AFn} {X:Calls'} {c:ACode} {E:Env} {A:St} {Q:Ex→Env→St→Prop} (I:Env→Prop) (h:I E) (k:∀ E,I E→Wp D G0 fns X c E A Q):Wp D G0 fns X c E A Q:=k E h
theorem eff_mkMap (E:Env) (A:St):effOf E A .mkMap=some (.map (some A.next),A.push (.map [] 0)):=rfl
theorem pure_mm2 {E:Env} {b:Bool} {x y:Operand} {k:IntKind} {n i:Int} (h1:ev E x=.int k n) (h2:ev E y=.int k i):pureOf E (.minmax b [x,y])=some (.int k (bif b then max n i else min n i)):=by
 simp only[pureOf,evs_cons,evs_nil,h1,h2]
 cases b
 ·simp[foldA,min2]
  split<;>omega
 ·simp[foldA,max2]
  split<;>omega

def RoS (K:Nat→Nat) (s:AV):Prop:=∀ f,s.into f=true→K f=0
def KFresh (K:Nat→Nat) (A:St):Prop:=∀ f,A.next≤f→K f=0
theorem KFresh.le {K:Nat→Nat} {A B:St} (h:KFresh K A) (x:A.next≤B.next):KFresh K B:=fun f hf=>h f (Nat.le_trans x hf)
def KUp (K K':Nat→Nat) (A:St):Prop:=∀ f,f<A.next→K' f=K f
theorem KUp.refl (K:Nat→Nat) (A:St):KUp K K A:=fun _ _=>rfl
structure Wld (K:Nat→Nat) (A0 A:St):Prop where
 glob:A0.Ext A
 low:∀ f,f<A0.next→K f=0
 fresh:KFresh K A
theorem Wld.mod {K:Nat→Nat} {W:Nat→Prop} {A0 A B:St} (h:Wld K A0 A) (m:Mod W A B) (hw:∀ f,W f→K f≠0):Wld K A0 B:=
 ⟨⟨Nat.le_trans h.glob.next m.next,fun f hf=>(m.get f (Nat.lt_of_lt_of_le hf h.glob.next) (fun hW=>hw f hW (h.low f hf))).trans (h.glob.get f hf)⟩,h.low,h.fresh.le m.next⟩
theorem Wld.ext {K:Nat→Nat} {A0 A B:St} (h:Wld K A0 A) (x:A.Ext B):Wld K A0 B:=⟨h.glob.trans x,h.low,h.fresh.le x.next⟩
theorem RoS.up {K K':Nat→Nat} {A:St} {sz:Nat} {s:AV} {cs:List AV} (h:RoS K s) (hs:Sl A sz s cs) (u:KUp K K' A):RoS K' s:=fun f hf=>by rw[u f (Sl.into_lt hs hf)];exact h f hf

def segR (K:Nat→Nat) (A:St) (v:AV) (d:SegD):Prop:=∃ s,v=.agg [s,.int .i64 d.syn]∧Bs A s d.b∧RoS K s
structure TpOk (t:TpD):Prop where
 room:0≤t.room∧t.room≤1048576
 used:usedL t.segs≤1048576
 syn:∀ x∈t.segs,x.2.syn≤x.2.b.length
 keys:∀ x∈t.segs,0≤x.1∧x.1≤1048576
 few:t.segs.length≤64
 fuse:-1≤t.fuse∧t.fuse<9223372036854775808
structure TpC (b:Nat) (K:Nat→Nat) (A:St) (p m:Nat) (t:TpD):Prop where
 cl:Cl A p [.int .i64 t.room,.map (some m),.int .i64 t.fuse,.bool t.down]
 ex:∃ l c,MapE (AV.int .i64) A m l c∧ValsR (segR K A) (valsA l) t.segs
 kp:K p=b+1
 km:K m=b+1
 ne:p≠m
 ok:TpOk t
theorem segR.mod {K:Nat→Nat} {W:Nat→Prop} {A B:St} {v:AV} {d:SegD} (h:segR K A v d) (m:Mod W A B) (hw:∀ f,W f→K f≠0):segR K B v d:=by
 obtain⟨s,h1,h2,h3⟩:=h
 exact⟨s,h1,Sl.mod h2 m (fun f hf hW=>hw f hW (h3 f hf)),h3⟩
theorem segR.up {K K':Nat→Nat} {A:St} {v:AV} {d:SegD} (h:segR K A v d) (u:KUp K K' A):segR K' A v d:=by
 obtain⟨s,h1,h2,h3⟩:=h
 exact⟨s,h1,h2,h3.up h2 u⟩
theorem TpC.modp {b:Nat} {K:Nat→Nat} {W:Nat→Prop} {A B:St} {p m:Nat} {t:TpD} (h:TpC b K A p m t) (x:Mod W A B) (hp:¬W p) (hm:¬W m) (hw:∀ f,W f→K f≠0):TpC b K B p m t:=by
 obtain⟨l,c,h1,h2⟩:=h.ex
 exact⟨h.cl.mod x hp,⟨l,c,h1.mod x hm,h2.mono fun v _ d hd=>hd.mod x hw⟩,h.kp,h.km,h.ne,h.ok⟩
theorem TpC.mod {b:Nat} {K:Nat→Nat} {W:Nat→Prop} {A B:St} {p m:Nat} {t:TpD} (h:TpC b K A p m t) (x:Mod W A B) (hw:∀ f,W f→K f≠0∧K f≠b+1):TpC b K B p m t:=
 h.modp x (fun hW=>(hw _ hW).2 h.kp) (fun hW=>(hw _ hW).2 h.km) fun f hW=>(hw f hW).1
theorem TpC.ext {b:Nat} {K:Nat→Nat} {A B:St} {p m:Nat} {t:TpD} (h:TpC b K A p m t) (x:A.Ext B):TpC b K B p m t:=h.mod (W:=fun _=>False) (Mod.of_ext x) fun _ hf=>hf.elim
theorem TpC.up {b:Nat} {K K':Nat→Nat} {A:St} {p m:Nat} {t:TpD} (h:TpC b K A p m t) (u:KUp K K' A):TpC b K' A p m t:=by
 obtain⟨l,c,h1,h2⟩:=h.ex
 exact⟨h.cl,⟨l,c,h1,h2.mono fun v _ d hd=>hd.up u⟩,by rw[u _ h.cl.lt];exact h.kp,by rw[u _ h1.lt];exact h.km,h.ne,h.ok⟩
theorem TpC.w {b:Nat} {K:Nat→Nat} {A:St} {p m:Nat} {t:TpD} (h:TpC b K A p m t):∀ f,f=p∨f=m→K f≠0:=by
 rintro f (rfl|rfl)
 ·rw[h.kp];omega
 ·rw[h.km];omega
theorem used_mem:∀ {l:List (Int × SegD)} {x:Int × SegD},x∈l→x.2.b.length≤usedL l
 | y::l,x,h=>by
  simp only[usedL]
  rcases List.mem_cons.1 h with rfl|h
  ·omega
  ·have:=used_mem h;omega
theorem TpC.look {b:Nat} {K:Nat→Nat} {A:St} {p m:Nat} {t:TpD} (h:TpC b K A p m t) (k:Int) :
  ∃ s,(∀ (E:Env) (mp x:Operand),ev E mp=.map (some m)→ev E x=.int .i64 k→readOf E A (.lookup (.int .i64) (.agg [.slice none 0 0 0 0,.int .i64 0]) true mp x)=some (.tuple [.agg [s,.int .i64 (t.seg k).syn],.bool (assoc k t.segs).isSome])) ∧
   (∀ (E:Env) (mp x:Operand),ev E mp=.map (some m)→ev E x=.int .i64 k→readOf E A (.lookup (.int .i64) (.agg [.slice none 0 0 0 0,.int .i64 0]) false mp x)=some (.agg [s,.int .i64 (t.seg k).syn]))∧Bs A s (t.seg k).b∧RoS K s:=by
 obtain⟨l,c,h1,h2⟩:=h.ex
 have ha:=h2.assoc (k:=k)
 cases hv:assoc k (valsA l) with
 | none=>
  have hn:=ha.2 hv
  have e:t.seg k=⟨[],0⟩:=by unfold TpD.seg;rw[hn];rfl
  rw[hn,e]
  exact⟨.slice none 0 0 0 0,fun E mp x hm hx=>by rw[h1.lookup (keyEnc_int .i64) hm hx _ true,hv];rfl,fun E mp x hm hx=>by rw[h1.lookup (keyEnc_int .i64) hm hx _ false,hv];rfl,Sl.nil _ _ _,fun f hf=>by cases hf⟩
 | some v=>
  obtain⟨d,hd,s,rfl,h3,h4⟩:=ha.1 v hv
  have e:t.seg k=d:=by unfold TpD.seg;rw[hd];rfl
  rw[hd,e]
  exact⟨s,fun E mp x hm hx=>by rw[h1.lookup (keyEnc_int .i64) hm hx _ true,hv];rfl,fun E mp x hm hx=>by rw[h1.lookup (keyEnc_int .i64) hm hx _ false,hv];rfl,h3,h4⟩
theorem TpC.lenMap {b:Nat} {K:Nat→Nat} {A:St} {p m:Nat} {t:TpD} (h:TpC b K A p m t) {E:Env} {mp:Operand} (hm:ev E mp=.map (some m)):readOf E A (.lenMap mp)=some (.int .i64 t.segs.length):=by
 obtain⟨l,c,h1,h2⟩:=h.ex
 rw[h1.len hm,←h2.length]
 simp[valsA]
def env3 (a b c:AV):Env:=Env.put (Env.put (Env.put T.nil (some 0) a) (some 1) b) (some 2) c
theorem mapPut_same {E:Env} {A:St} {kd:KK} {mp x y:Operand} {a b c:AV} (h1:ev E mp=a) (h2:ev E x=b) (h3:ev E y=c):effOf E A (.mapPut kd mp x y)=effOf (env3 a b c) A (.mapPut kd (.tmp 0) (.tmp 1) (.tmp 2)):=by
 have e1:ev (env3 a b c) (.tmp 0)=a:=by simp[env3]
 have e2:ev (env3 a b c) (.tmp 1)=b:=by simp[env3]
 have e3:ev (env3 a b c) (.tmp 2)=c:=by simp[env3]
 simp only[effOf,h1,h2,h3,e1,e2,e3]
theorem mapDel_same {E:Env} {A:St} {kd:KK} {mp x:Operand} {a b:AV} (h1:ev E mp=a) (h2:ev E x=b):effOf E A (.mapDel kd mp x)=effOf (env3 a b .bot) A (.mapDel kd (.tmp 0) (.tmp 1)):=by
 have e1:ev (env3 a b .bot) (.tmp 0)=a:=by simp[env3]
 have e2:ev (env3 a b .bot) (.tmp 1)=b:=by simp[env3]
 simp only[effOf,h1,h2,e1,e2]
theorem TpC.put {b:Nat} {K:Nat→Nat} {A:St} {p m:Nat} {t:TpD} (h:TpC b K A p m t) {k:Int} {d:SegD} {s:AV} (hs:Bs A s d.b) (hro:RoS K s) (hok:TpOk { t with segs:=putA k d t.segs }) :
  ∃ B,(∀ (E:Env) (mp x y:Operand),ev E mp=.map (some m)→ev E x=.int .i64 k→ev E y=.agg [s,.int .i64 d.syn]→effOf E A (.mapPut (.int .i64) mp x y)=some (.bot,B))∧Mod (fun f=>f=m) A B∧TpC b K B p m { t with segs:=putA k d t.segs }:=by
 obtain⟨l,c,h1,h2⟩:=h.ex
 obtain⟨l',c',g1,g2,g3⟩:=h1.put (keyEnc_int .i64) (E:=env3 (.map (some m)) (.int .i64 k) (.agg [s,.int .i64 d.syn])) (mp:=.tmp 0) (x:=.tmp 1) (y:=.tmp 2) (k:=k) (v:=.agg [s,.int .i64 d.syn]) (by simp[env3]) (by simp[env3]) (by simp[env3]) (by simp)
 have hm:Mod (fun f=>f=m) A (A.put m (.map (entC (AV.int .i64) l') c')):=mod_put A m _ rfl
 have hk:∀ f,f=m→K f≠0:=fun f hf=>by rw[hf,h.km];omega
 refine⟨_,fun E mp x y e1 e2 e3=>by rw[mapPut_same e1 e2 e3];exact g1,hm,h.cl.mod hm h.ne,⟨l',c',g3,?_⟩,h.kp,h.km,h.ne,hok⟩
 rw[g2]
 refine ValsR.put ?_ (h2.mono fun v _ d hd=>hd.mod hm hk)
 exact⟨s,rfl,Sl.mod hs hm fun f hf hW=>hk f hW (hro f hf),hro⟩
theorem TpC.del {b:Nat} {K:Nat→Nat} {A:St} {p m:Nat} {t:TpD} (h:TpC b K A p m t) {k:Int} (hok:TpOk { t with segs:=delA k t.segs }) :
  ∃ B,(∀ (E:Env) (mp x:Operand),ev E mp=.map (some m)→ev E x=.int .i64 k→effOf E A (.mapDel (.int .i64) mp x)=some (.tuple [],B))∧Mod (fun f=>f=m) A B∧TpC b K B p m { t with segs:=delA k t.segs }:=by
 obtain⟨l,c,h1,h2⟩:=h.ex
 obtain⟨l',g1,g2,g3⟩:=h1.del (keyEnc_int .i64) (E:=env3 (.map (some m)) (.int .i64 k) .bot) (mp:=.tmp 0) (x:=.tmp 1) (k:=k) (by simp[env3]) (by simp[env3])
 have hm:Mod (fun f=>f=m) A (A.put m (.map (entC (AV.int .i64) l') c)):=mod_put A m _ rfl
 have hk:∀ f,f=m→K f≠0:=fun f hf=>by rw[hf,h.km];omega
 refine⟨_,fun E mp x e1 e2=>by rw[mapDel_same e1 e2];exact g1,hm,h.cl.mod hm h.ne,⟨l',c,g3,?_⟩,h.kp,h.km,h.ne,hok⟩
 rw[g2]
 exact ValsR.del (h2.mono fun v _ d hd=>hd.mod hm hk)
theorem not_map {A:St} {f c:Nat} {es:List (AV × AV × Nat)} (hg:A.get f=some (.map es c)) {sz:Nat} {s:AV} {cs:List AV} (h:Sl A sz s cs):s.into f=false:=by
 cases h with
 | nil po cap q=>rfl
 | @mem g v o po len cap q cs hf hc hq=>
  by_cases hgf:g=f
  ·subst hgf
   unfold St.cells St.look at hc
   simp[hg] at hc
  ·simp[AV.into,hgf]
theorem TpOk.few_seg {t:TpD} (h:TpOk t) (k:Int):(t.seg k).b.length≤1048576∧(t.seg k).syn≤(t.seg k).b.length:=by
 unfold TpD.seg
 cases ha:assoc k t.segs with
 | none=>simp
 | some d=>
  have hm:=assoc_mem ha
  exact⟨Nat.le_trans (used_mem hm) h.used,h.syn _ hm⟩
theorem local_put (A:St) {cs l:List AV} {n:Nat} (hn:n=cs.length) (hl:l.length=cs.length) (hf:l.all AV.flat=true):∃ B,storeV (A.make cs 1).2 n (.ptr (some (A.next,0,0))) (.agg l)=some (.bot,B)∧A.Ext B∧Cl B A.next l:=by
 obtain⟨w1,w2⟩:=(Cl.make A cs).sta hl hf
 refine⟨_,by rw[hn];exact w1,⟨Nat.le_succ _,fun f hf=>?_⟩,w2⟩
 rw[St.get_put,if_neg (by omega)]
 exact (qdq A cs 1).get f hf
theorem flat_seg {A:St} {v:AV} {l:List UInt8} (h:Bs A v l) (k:IntKind) (n:Int):[v,AV.int k n].all AV.flat=true:=by
 simp only[List.all_cons,Sl.flat h]
 rfl
section
variable (P:Program) (M0:Mu) (n:Nat)
def seqM (b:ACode) (Q:Ex→Env→St→Prop) (ex:Ex) (E:Env) (A:St):Prop:=
 match ex with
 | .normal=>MW P M0 n b E A Q
 | ex=>Q ex E A
end
section
variable {P:Program} {M0:Mu} {n:Nat} {D:Disp} {G0:Env} {fns:Nat→Option AFn} {X:Calls'}
@[simp] theorem seqM_normal (b:ACode) (Q:Ex→Env→St→Prop) (E:Env) (A:St):seqM P M0 n b Q .normal E A=MW P M0 n b E A Q:=rfl
@[simp] theorem seqM_exit (b:ACode) (Q:Ex→Env→St→Prop) (i:Nat) (E:Env) (A:St):seqM P M0 n b Q (.exit i) E A=Q (.exit i) E A:=rfl
@[simp] theorem seqM_ret (b:ACode) (Q:Ex→Env→St→Prop) (E:Env) (A:St):seqM P M0 n b Q .ret E A=Q .ret E A:=rfl

structure Base (P:Program) (M0:Mu) (G0:Env) (fns:Nat→Option AFn) (X:Calls'):Prop where
 mx:P.follows .mixedOrders=true
 pg:PgOk M0 P
 base:BaseOk M0 G0
 fns:∀ f afn,fns f=some afn→∃ fn,P.funcs[f]?=some fn∧compFn P fn=some afn∧fn.name ≠ "runtime.NumGoroutine"
 ext:GSound P M0 X
theorem MW.seqM {x y:ACode} {E:Env} {A:St} {Q:Ex→Env→St→Prop} (h:MW P M0 n x E A (AM.seqM P M0 n y Q)):MW P M0 n (.seq x y) E A Q:=
 MW.seq (h.mono fun ex E A h=>by cases ex<;>exact h)
theorem MW.blockM {id:Nat} {x:ACode} {E:Env} {A:St} {Q:Ex→Env→St→Prop} (h:MW P M0 n x E A (blkK id Q)):MW P M0 n (.block id x) E A Q:=
 MW.block (h.mono fun ex E A h=>by cases ex<;>exact h)
theorem MW.loopM {x:ACode} {E:Env} {A:St} {Q:Ex→Env→St→Prop} (I:Nat→Env→St→Prop) (d:Nat) (h:I d E A) (round:∀ d E A,I d E A→MW P M0 n x E A (AM.loopK I d Q)):MW P M0 n (.loop x) E A Q:=
 MW.loop I d h fun d E A h=>(round d E A h).mono fun ex E A h=>by cases ex<;>exact h
theorem MW.wp (b:Base P M0 G0 fns X) {x:ACode} {E:Env} {A:St} {Q:Ex→Env→St→Prop} (h:Wp D G0 fns X x E A Q):MW P M0 n x E A Q:=
 MW.of_Wp b.mx b.pg b.base b.fns b.ext h
theorem MRun.ops (b:Base P M0 G0 fns X):∀ {l:List AOper} {E:Env} {A:St} {Q:Ex→Env→St→Prop},Ops D G0 fns X l E A Q→MRun P M0 n l E A fun E A=>Q .normal E A
 | [],E,A,Q,h=>by
  obtain⟨k,E',A',h1,h2⟩:=h
  cases h1
  exact h2
 | o::l,E,A,Q,h=>by
  obtain⟨k,E',A',h1,h2⟩:=h
  simp only[runOps] at h1
  simp only[MRun]
  split at h1
  ·rename_i hw
   split at h1
   ·rename_i v B hop
    rw[hw]
    exact OpAny.det (K:=fun v B=>MRun P M0 n l (Env.put E o.dst v) B fun E A=>Q .normal E A) (calls_sound b.mx b.pg b.base b.fns b.ext k) hop (MRun.ops b ⟨k,E',A',h1,h2⟩)
   ·cases h1
  ·rename_i hw
   rw[hw]
   exact MRun.ops b ⟨k,E',A',h1,h2⟩
  ·cases h1
theorem MRun.next {d:Option Nat} {l:List AOper} {it:Operand} {E:Env} {A:St} {Q:Env→St→Prop} {f g:Nat} {since last clock:Nat} {seen:List Nat} {es:List (AV × AV × Nat)}
  (hx:ev E it=.ptr (some (f,0,0))) (hg:A.get f=some (.iter (.map (some g) since seen last))) (hgm:A.get g=some (.map es clock)) (hgone:(!seen.isEmpty&&!es.isEmpty&&es.all fun e=>decide (e.2.2≥last))=false)
  (hover:oldOf since seen es=[]→MRun P M0 n l (Env.put E d (.tuple [.bool false])) A Q)
  (hstep:∀ k v b,(k,v,b)∈oldOf since seen es++newOf' since seen es→MRun P M0 n l (Env.put E d (.tuple [.bool true,k,v])) (A.put f (.iter (.map (some g) since (seen++[b]) clock))) Q) :
  MRun P M0 n (⟨d,.next false it,none⟩::l) E A Q:=
 OpAny.next (K:=fun v B=>MRun P M0 n l (Env.put E d v) B Q) hx hg hgm hgone hover hstep
structure Has (P:Program) (f:FuncId) (afn:AFn):Prop where
 ex:∃ fn,P.funcs[f]?=some fn∧compFn P fn=some afn∧fn.name ≠ "runtime.NumGoroutine"
theorem EvS.fnM (b:Base P M0 G0 fns X) {f:FuncId} {afn:AFn} (hf:Has P f afn) {args:List AV} {A:St} {Q:AV→St→Prop} (hn:args.length≤afn.n∧afn.n≤1000000)
  (h:∀ n,MW P M0 n afn.body (setArgs 0 args G0) A (fnK afn.res Q)):EvS P M0 f args A Q:=by
 obtain⟨fn,h1,h2,h3⟩:=hf.ex
 exact EvS.fn b.base h1 h2 h3 hn ((h _).mono fun ex E A h=>by cases ex<;>exact h)
theorem Ev.ext {f:FuncId} (hf:fns f=none) {args:List AV} {A B:St} {r:AV} {Q:AV→St→Prop} (hx:X f args A=some (r,B)) (hq:Q r B) (hy:Nat.beq f yieldId=false:=by decide):Ev D G0 fns X f args A Q:=
 ⟨1,r,B,by simp only[calls,hf,hy,cond_false];exact hx,hq⟩
@[simp] theorem ops_range (isMap:Bool) (x:Operand) (d:Option Nat) (l:List AOper) (E:Env) (A:St) (Q:Ex→Env→St→Prop):Ops D G0 fns X (⟨d,.range isMap x,none⟩::l) E A Q=contP D G0 fns X (effOf E A (.range isMap x)) d l E Q:=ops_eff rfl d l E A Q
@[simp] theorem ops_entry (x:Operand) (d:Option Nat) (l:List AOper) (E:Env) (A:St) (Q:Ex→Env→St→Prop):Ops D G0 fns X (⟨d,.entry x,none⟩::l) E A Q=contV D G0 fns X (readOf E A (.entry x)) d l E A Q:=ops_read rfl d l E A Q
end
theorem cells_made (A:St) {cs:List AV} {n:Nat} (h:cs.length=n):(A.make cs 1).2.cells (A.next,0,0) n=some cs:=by
 unfold St.cells St.look
 dsimp only
 rw[get_make]
 simp[findVer,h]
 rw[←h,List.take_length]
theorem cells_kept {A B:St} (x:A.Ext B) {p:Pl} (hp:p.1<A.next) {n:Nat} {cs:List AV} (h:A.cells p n=some cs):B.cells p n=some cs:=by
 rw[St.cells_ext (x.get _ hp)];exact h
end Go.AM
namespace Go.Proofs.YtlaoookdegmnnaaGreatDoor
open Go.AM
inductive ErrSh (lo:Nat) (A:St):Nat→AV→Int→Prop where
 | num {f:Nat} {e:Int} (hl:lo≤f) (hf:f<A.next) (h:A.cells (f,0,0) 1=some [.int .i64 e]) (he:e≠0):ErrSh lo A 0 (.iface 229 (.ptr (some (f,0,0)))) e
 | place {f k:Nat} {t:TypeId} {v:AV} {i e:Int} (hl:lo≤f) (hf:f<A.next) (h:A.cells (f,0,0) 2=some [.iface t v,.int .i64 i]) (hv:ErrSh lo A k (.iface t v) e):ErrSh lo A (k+1) (.iface 251 (.ptr (some (f,0,0)))) e
 | name {f k:Nat} {t:TypeId} {v:AV} {s:List UInt8} {e:Int} (hl:lo≤f) (hf:f<A.next) (h:A.cells (f,0,0) 2=some [.iface t v,.str s]) (hv:ErrSh lo A k (.iface t v) e):ErrSh lo A (k+1) (.iface 352 (.ptr (some (f,0,0)))) e
 | limit {f k:Nat} {t:TypeId} {v:AV} {i j e:Int} (hl:lo≤f) (hf:f<A.next) (h:A.cells (f,0,0) 3=some [.iface t v,.int .i64 i,.int .i64 j]) (hv:ErrSh lo A k (.iface t v) e):ErrSh lo A (k+1) (.iface 349 (.ptr (some (f,0,0)))) e
theorem ErrSh.keep {lo:Nat} {A B:St} {k:Nat} {v:AV} {e:Int} (h:ErrSh lo A k v e) (hn:A.next≤B.next) (hg:∀ f,lo≤f→f<A.next→B.get f=A.get f):ErrSh lo B k v e:=by
 induction h with
 | num hl hf h he=>exact .num hl (Nat.lt_of_lt_of_le hf hn) ((St.cells_ext (hg _ hl hf)).trans h) he
 | place hl hf h hv ih=>exact .place hl (Nat.lt_of_lt_of_le hf hn) ((St.cells_ext (hg _ hl hf)).trans h) ih
 | name hl hf h hv ih=>exact .name hl (Nat.lt_of_lt_of_le hf hn) ((St.cells_ext (hg _ hl hf)).trans h) ih
 | limit hl hf h hv ih=>exact .limit hl (Nat.lt_of_lt_of_le hf hn) ((St.cells_ext (hg _ hl hf)).trans h) ih
theorem ErrSh.mono {lo lo':Nat} {A:St} {k:Nat} {v:AV} {e:Int} (h:ErrSh lo A k v e) (hl':lo'≤lo):ErrSh lo' A k v e:=by
 induction h with
 | num hl hf h he=>exact .num (Nat.le_trans hl' hl) hf h he
 | place hl hf h hv ih=>exact .place (Nat.le_trans hl' hl) hf h ih
 | name hl hf h hv ih=>exact .name (Nat.le_trans hl' hl) hf h ih
 | limit hl hf h hv ih=>exact .limit (Nat.le_trans hl' hl) hf h ih
theorem ErrSh.ext {lo:Nat} {A B:St} {k:Nat} {v:AV} {e:Int} (h:ErrSh lo A k v e) (x:A.Ext B):ErrSh lo B k v e:=h.keep x.next fun f _ hf=>x.get f hf
theorem ErrSh.isIface {lo:Nat} {A:St} {k:Nat} {v:AV} {e:Int} (h:ErrSh lo A k v e):∃ t u,v=.iface t u:=by cases h<;>exact⟨_,_,rfl⟩
theorem ErrSh.ne {lo:Nat} {A:St} {k:Nat} {v:AV} {e:Int} (h:ErrSh lo A k v e):e≠0:=by
 induction h with
 | num hl hf h he=>exact he
 | _=>assumption
def EV (A:St) (v:AV) (e:Int):Prop:=(e=0∧v=.nilIface)∨(e≠0∧∃ k t u,k≤2∧v=.iface t u∧ErrSh 0 A k v e)
theorem EV.nil (A:St):EV A .nilIface 0:=.inl ⟨rfl,rfl⟩
theorem ErrSh.ev {lo:Nat} {A:St} {k:Nat} {v:AV} {e:Int} (h:ErrSh lo A k v e) (hk:k≤2):EV A v e:=by
 obtain⟨t,u,rfl⟩:=h.isIface
 exact .inr ⟨h.ne,k,t,u,hk,rfl,h.mono (Nat.zero_le _)⟩
structure RowsX (X:Calls') (A0:St):Prop where
 code:∀ {A:St} {v:AV} {e:Int},A0.Ext A→EV A v e→X 67 [v] A=some (.int .i64 e,A)
 segs:∀ {b:Nat} {K:Nat→Nat} {A:St} {p m:Nat} {t:TpD},A0.Ext A→TpC b K A p m t→∃ r B,X 84 [.ptr (some (p,0,0))] A=some (r,B)∧A.Ext B∧Sl B 1 r (t.keys.map (AV.int .i64))∧∀ f,r.into f=true→A.next≤f
section
variable {D:Disp} {G0:Env} {X:Calls'} {A0:St}
theorem qvq (HX:RowsX X A0) {A:St} (h:A0.Ext A) {v:AV} {e:Int} (he:EV A v e):Ev D G0 fnsL X 67 [v] A fun r B=>A=B∧r=.int .i64 e:=
 Ev.ext rfl (HX.code h he) ⟨rfl,rfl⟩
theorem segs_spec (HX:RowsX X A0) {b:Nat} {K:Nat→Nat} {A:St} (h:A0.Ext A) {p m:Nat} {t:TpD} (ht:TpC b K A p m t):Ev D G0 fnsL X 84 [.ptr (some (p,0,0))] A fun r B=>A.Ext B∧Sl B 1 r (t.keys.map (AV.int .i64))∧∀ f,r.into f=true→A.next≤f:=by
 obtain⟨r,B,h1,h2⟩:=HX.segs h ht
 exact Ev.ext rfl h1 h2
theorem new_spec {A:St} {e:Int} (he:e≠0):Ev D G0 fnsL X 90 [.int .i64 e] A fun r B=>A.Ext B∧ErrSh A.next B 0 r e:=by
 refine Ev.fnK (fn:=a90) rfl ⟨by simp[a90],by decide⟩ ?_
 unfold a90
 simp[he,fillA,AV.isBot,AV.cells,splice,boxV,Made.value,mkIfaceV]
 exact⟨qdq A _ 1,.num (Nat.le_refl _) (Nat.lt_succ_self _) (cells_made A rfl) he⟩
theorem at_nil {A:St} {i:Int}:Ev D G0 fnsL X 82 [.int .i64 i,.nilIface] A fun r B=>A=B∧r=.nilIface:=by
 refine Ev.fnK (fn:=a82) rfl ⟨by simp[a82],by decide⟩ ?_
 unfold a82
 simp[eqV,eqOf]
theorem at_spec {A:St} {i e:Int} {k:Nat} {v:AV} {lo:Nat} (h:ErrSh lo A k v e):Ev D G0 fnsL X 82 [.int .i64 i,v] A fun r B=>A.Ext B∧ErrSh (min lo A.next) B (k+1) r e:=by
 obtain⟨t,u,rfl⟩:=h.isIface
 refine Ev.fnK (fn:=a82) rfl ⟨by simp[a82],by decide⟩ ?_
 unfold a82
 simp[eqV,eqOf,fillA,AV.isBot,AV.cells,splice,boxV,Made.value,mkIfaceV]
 exact⟨qdq A _ 1,.place (Nat.min_le_right _ _) (Nat.lt_succ_self _) (cells_made A rfl) ((h.ext (qdq A _ 1)).mono (Nat.min_le_left _ _))⟩
theorem name_nil {A:St} {s:List UInt8}:Ev D G0 fnsL X 151 [.str s,.nilIface] A fun r B=>A=B∧r=.nilIface:=by
 refine Ev.fnK (fn:=a151) rfl ⟨by simp[a151],by decide⟩ ?_
 unfold a151
 simp[eqV,eqOf]
theorem name_spec {A:St} {s:List UInt8} {e:Int} {k:Nat} {v:AV} {lo:Nat} (h:ErrSh lo A k v e):Ev D G0 fnsL X 151 [.str s,v] A fun r B=>A.Ext B∧ErrSh (min lo A.next) B (k+1) r e:=by
 obtain⟨t,u,rfl⟩:=h.isIface
 refine Ev.fnK (fn:=a151) rfl ⟨by simp[a151],by decide⟩ ?_
 unfold a151
 simp[eqV,eqOf,fillA,AV.isBot,AV.cells,splice,boxV,Made.value,mkIfaceV]
 exact⟨qdq A _ 1,.name (Nat.min_le_right _ _) (Nat.lt_succ_self _) (cells_made A rfl) ((h.ext (qdq A _ 1)).mono (Nat.min_le_left _ _))⟩
theorem bound_spec {A:St} {i j e:Int} {k:Nat} {v:AV} {lo:Nat} (h:ErrSh lo A k v e):Ev D G0 fnsL X 150 [.int .i64 i,.int .i64 j,v] A fun r B=>A.Ext B∧ErrSh (min lo A.next) B (k+1) r e:=by
 obtain⟨t,u,rfl⟩:=h.isIface
 refine Ev.fnK (fn:=a150) rfl ⟨by simp[a150],by decide⟩ ?_
 unfold a150
 simp[eqV,eqOf,fillA,AV.isBot,AV.cells,splice,boxV,Made.value,mkIfaceV]
 exact⟨qdq A _ 1,.limit (Nat.min_le_right _ _) (Nat.lt_succ_self _) (cells_made A rfl) ((h.ext (qdq A _ 1)).mono (Nat.min_le_left _ _))⟩
end
section
variable {D:Disp} {G0:Env} {X:Calls'} {A0:St}
theorem lss_int (k:IntKind) (x y:Int):binOf .lss (.int k x) (.int k y)=some (.bool (decide (x<y))):=by rw[qjq]
theorem named_spec {A:St} {s:Int}:Ev D G0 fnsL X 348 [.int .i64 s] A fun r B=>A.Ext B∧EV B r (if s<0∨1048576<s then 2 else 0):=by
 refine Ev.fnK (fn:=a348) rfl ⟨by simp[a348],by decide⟩ ?_
 unfold a348
 by_cases h:s<0∨1048576<s
 ·rw[if_pos h]
  by_cases h1:s<0
  ·simp[h1,qaq,allKnown]
   refine (new_spec (e:=2) (by decide)).mono fun r B ⟨x1,h1⟩=>?_
   obtain⟨t,u,rfl⟩:=h1.isIface
   simp[qaq,allKnown]
   refine (bound_spec h1).mono fun r C ⟨x2,h2⟩=>?_
   obtain⟨t,u,rfl⟩:=h2.isIface
   simp
   exact⟨x1.trans x2,h2.ev (by decide)⟩
  ·have h2:1048576<s:=by omega
   simp[h1,h2,qaq,allKnown]
   refine (new_spec (e:=2) (by decide)).mono fun r B ⟨x1,h1⟩=>?_
   obtain⟨t,u,rfl⟩:=h1.isIface
   simp[qaq,allKnown]
   refine (bound_spec h1).mono fun r C ⟨x2,h2⟩=>?_
   obtain⟨t,u,rfl⟩:=h2.isIface
   simp
   exact⟨x1.trans x2,h2.ev (by decide)⟩
 ·rw[if_neg h]
  simp only[not_or] at h
  simp[h.1,h.2]
  exact⟨St.Ext.refl A,EV.nil A⟩
theorem there_spec {b:Nat} {K:Nat→Nat} {A:St} {p m:Nat} {t:TpD} (ht:TpC b K A p m t) {s:Int} {made:Bool} :
  Ev D G0 fnsL X 262 [.ptr (some (p,0,0)),.int .i64 s,.bool made] A fun r B=>A.Ext B∧EV B r (t.there s made):=by
 refine Ev.fnK (fn:=a262) rfl ⟨by simp[a262],by decide⟩ ?_
 unfold a262
 simp[eqV,eqOf,qaq,allKnown]
 refine (named_spec (s:=s)).mono fun r B ⟨x1,h1⟩=>?_
 unfold TpD.there
 by_cases hs:s<0∨1048576<s
 ·rw[if_pos hs] at h1
  rw[if_pos hs]
  rcases h1 with ⟨h,_⟩|⟨h0,k,ty,u,hk,rfl,h2⟩
  ·cases h
  simp[eqV,eqOf]
  exact⟨x1,h2.ev hk⟩
 rw[if_neg hs] at h1
 rw[if_neg hs]
 rcases h1 with ⟨h,rfl⟩|⟨h0,_⟩
 rotate_left
 ·exact absurd rfl h0
 have ht:=ht.ext x1
 have l3:=ht.cl.ld 3 (v:=.bool t.down) rfl
 have l1:=ht.cl.ld 1 (v:=.map (some m)) rfl
 simp[eqV,eqOf,AV.addr,l3]
 refine qeq (fun hd=>?_) (fun hd=>?_)
 ·rw[if_pos hd]
  simp[qaq,allKnown]
  refine (new_spec (e:=8) (by decide)).mono fun r C ⟨x2,h2⟩=>?_
  obtain⟨ty,u,rfl⟩:=h2.isIface
  simp
  exact⟨x1.trans x2,h2.ev (by decide)⟩
 ·rw[if_neg (by simp[hd])]
  obtain⟨v,q1,q2,q3,q4⟩:=ht.look s
  obtain⟨C,w1,x2,w2⟩:=local_put B (cs:=[.slice none 0 0 0 0,.int .i64 0]) (n:=2) rfl (l:=[v,.int .i64 (t.seg s).syn]) rfl (flat_seg q3 _ _)
  have x12:=x1.trans x2
  cases ha:assoc s t.segs with
  | some d=>
   simp[eqV,eqOf,AV.addr,l1,q1,ha,Made.value,w1]
   exact⟨x12,EV.nil C⟩
  | none=>
   cases made with
   | true=>
    simp[eqV,eqOf,AV.addr,l1,q1,ha,Made.value,w1]
    exact⟨x12,EV.nil C⟩
   | false=>
    simp[eqV,eqOf,AV.addr,l1,q1,ha,Made.value,w1,qaq,allKnown]
    refine (new_spec (e:=3) (by decide)).mono fun r C2 ⟨x3,h2⟩=>?_
    obtain⟨ty,u,rfl⟩:=h2.isIface
    simp[qaq,allKnown]
    refine (at_spec h2).mono fun r C3 ⟨x4,h3⟩=>?_
    obtain⟨ty,u,rfl⟩:=h3.isIface
    simp
    exact⟨(x12.trans x3).trans x4,h3.ev (by decide)⟩
theorem spend_spec {b:Nat} {K:Nat→Nat} {A:St} {p m:Nat} {t:TpD} (ht:TpC b K A p m t) :
  Ev D G0 fnsL X 266 [.ptr (some (p,0,0))] A fun r B=>Mod (fun f=>f=p) A B∧TpC b K B p m t.spend.2∧EV B r (if t.spend.1 then 0 else 8):=by
 refine Ev.fnK (fn:=a266) rfl ⟨by simp[a266],by decide⟩ ?_
 unfold a266
 have l2:=ht.cl.ld 2 (v:=.int .i64 t.fuse) rfl
 obtain⟨l,c,h1,h2⟩:=ht.ex
 have hok:=ht.ok
 have key:∀ {t':TpD},t'.room=t.room→t'.segs=t.segs→TpOk t'→∀ {cs:List AV},cs=[.int .i64 t'.room,.map (some m),.int .i64 t'.fuse,.bool t'.down]→Cl (A.put p (.cells cs [⟨0,0,4,1⟩] 1 false)) p cs →
   Mod (fun f=>f=p) A (A.put p (.cells cs [⟨0,0,4,1⟩] 1 false))∧TpC b K (A.put p (.cells cs [⟨0,0,4,1⟩] 1 false)) p m t':=fun hr hs ho cs hcs hcl=>by
  have hm:Mod (fun f=>f=p) A (A.put p (.cells cs [⟨0,0,4,1⟩] 1 false)):=mod_put A p _ rfl
  refine⟨hm,by rw[←hcs];exact hcl,⟨l,c,h1.mod hm (fun h=>ht.ne h.symm),?_⟩,ht.kp,ht.km,ht.ne,ho⟩
  rw[hs]
  exact h2.mono fun v _ d hd=>hd.mod hm fun f hf=>by subst hf;rw[ht.kp];omega
 unfold TpD.spend
 by_cases h0:t.fuse=0
 ·obtain⟨st1,st2⟩:=ht.cl.st 3 (by simp) (v:=.bool true) rfl rfl rfl
  simp at st1 st2
  obtain⟨k1,k2⟩:=key (t':={ t with down:=true }) rfl rfl ⟨hok.room,hok.used,hok.syn,hok.keys,hok.few,hok.fuse⟩ rfl st2
  simp only[h0] at st1 k1 k2
  simp[AV.addr,l2,h0,st1,qaq,allKnown]
  generalize A.put p _=B at *
  refine (new_spec (e:=8) (by decide)).mono fun r C ⟨x3,h3⟩=>?_
  obtain⟨ty,u,rfl⟩:=h3.isIface
  simp
  exact⟨k1.trans (Mod.of_ext x3),k2.ext x3,h3.ev (by decide)⟩
 ·by_cases hp:0<t.fuse
  ·have es:binOf .sub (.int .i64 t.fuse) (.int .i64 1)=some (.int .i64 (t.fuse - 1)):=by
    rw[qsq,IntKind.wrap_i64]
    have:=hok.fuse
    congr 2
    omega
   obtain⟨st1,st2⟩:=ht.cl.st 2 (by simp) (v:=.int .i64 (t.fuse - 1)) rfl rfl rfl
   simp at st1 st2
   obtain⟨k1,k2⟩:=key (t':={ t with fuse:=t.fuse - 1 }) rfl rfl ⟨hok.room,hok.used,hok.syn,hok.keys,hok.few,by have:=hok.fuse;simp only;omega⟩ rfl st2
   simp[AV.addr,l2,h0,hp,es,st1,-qsq]
   exact⟨k1,k2,EV.nil _⟩
  ·simp[AV.addr,l2,h0,hp]
   exact⟨Mod.refl A,ht,EV.nil _⟩
theorem fused {t:TpD} {l:List (Int × SegD)} (h2:TpOk { t with segs:=l }):TpOk { t.spend.2 with segs:=l }:=by
 have hf:=h2.fuse
 simp only at hf
 unfold TpD.spend
 split
 ·exact⟨h2.room,h2.used,h2.syn,h2.keys,h2.few,h2.fuse⟩
 ·split
  ·exact⟨h2.room,h2.used,h2.syn,h2.keys,h2.few,by simp only;omega⟩
  ·exact h2
theorem spend_segs (t:TpD):t.spend.2.segs=t.segs:=by
 unfold TpD.spend
 split
 ·rfl
 ·split<;>rfl
theorem change_eq (t:TpD) (k:Int) (d:SegD):t.change k d=if t.spend.1 then (0,{ t.spend.2 with segs:=putA k d t.segs }) else (8,t.spend.2):=by
 have e:=spend_segs t
 unfold TpD.change
 rcases h:t.spend with ⟨b,t'⟩
 rw[h] at e
 simp only at e
 cases b
 ·rfl
 ·simp[e]
theorem change_spec (HX:RowsX X A0) {b:Nat} {K:Nat→Nat} {A:St} (hA:Wld K A0 A) {p m:Nat} {t:TpD} (ht:TpC b K A p m t) {k:Int} {d:SegD} {s:AV} (hs:Bs A s d.b) (hro:RoS K s) (hok:TpOk { t with segs:=putA k d t.segs }) :
  Ev D G0 fnsL X 264 [.ptr (some (p,0,0)),.int .i64 k,.agg [s,.int .i64 d.syn]] A fun r B=>Mod (fun f=>f=p∨f=m) A B∧TpC b K B p m (t.change k d).2∧r=.int .i64 (t.change k d).1:=by
 refine Ev.fnK (fn:=a264) rfl ⟨by simp[a264],by decide⟩ ?_
 unfold a264
 have c1:=Cl.make A [s,.int .i64 d.syn]
 have x1:=qdq A [s,.int .i64 d.syn] 1
 simp[boxV,Made.value,qaq,allKnown,AV.cells]
 generalize (A.make [s,.int .i64 d.syn] 1).2=A1 at *
 refine (spend_spec (ht.ext x1)).mono fun r B ⟨m1,h1,h2⟩=>?_
 have hpm:=ht.cl.lt
 have m01:Mod (fun f=>f=p∨f=m) A B:=(Mod.of_ext x1).trans (m1.mono fun f _ h=>.inl h)
 have hB:=hA.mod m01 ht.w
 have c2:=c1.mod m1 (by omega)
 rw[change_eq]
 cases hb:t.spend.1 with
 | false=>
  rw[hb] at h2
  rcases h2 with ⟨h,_⟩|⟨h0,n,ty,u,hk,rfl,h2⟩
  ·cases h
  simp[eqV,eqOf,qaq,allKnown]
  refine (qvq HX hB.glob (h2.ev hk)).mono fun r C ⟨e1,e2⟩=>?_
  subst e1 e2
  simp
  exact⟨m01,h1⟩
 | true=>
  rw[hb] at h2
  rcases h2 with ⟨h,rfl⟩|⟨h0,_⟩
  rotate_left
  ·exact absurd rfl h0
  have hsB:Bs B s d.b:=Sl.mod hs m01 fun f hf hW=>ht.w f hW (hro f hf)
  obtain⟨C,e1,m2,h3⟩:=h1.put (k:=k) (d:=d) (s:=s) hsB hro (by rw[spend_segs];exact fused hok)
  have l1:=h1.cl.ld 1 (v:=.map (some m)) rfl
  have l5:=c2.lda 0 2 (by simp)
  simp at l5
  simp[eqV,eqOf]
  refine Wp.draws ?_
  simp[AV.addr,l1,l5,e1,InAll,AV.beq,AV.beqs,hs.beq,qaq,allKnown]
  have m02:=m01.trans (m2.mono (W':=fun f=>f=p∨f=m) fun f _ h=>.inr h)
  refine (qvq HX (hA.mod m02 ht.w).glob (EV.nil C)).mono fun r C2 ⟨q1,q2⟩=>?_
  subst q1 q2
  simp
  rw[spend_segs] at h3
  exact⟨m02,h3⟩
theorem del_sub {k:Int}:∀ {l:List (Int × SegD)} {x:Int × SegD},x∈delA k l→x∈l
 | [],_,h=>by cases h
 | (y,u)::l,x,h=>by
  simp only[delA] at h
  split at h
  ·exact List.mem_cons_of_mem _ h
  ·rcases List.mem_cons.1 h with rfl|h
   ·exact List.mem_cons_self
   ·exact List.mem_cons_of_mem _ (del_sub h)
theorem used_del (k:Int):∀ l:List (Int × SegD),usedL (delA k l)≤usedL l
 | []=>Nat.le_refl _
 | (y,u)::l=>by
  simp only[delA]
  split
  ·simp only[usedL];omega
  ·have:=used_del k l
   simp only[usedL];omega
theorem del_len (k:Int):∀ l:List (Int × SegD),(delA k l).length≤l.length
 | []=>Nat.le_refl _
 | (y,u)::l=>by
  simp only[delA]
  split
  ·simp
  ·have:=del_len k l
   simp;omega
theorem ok_del {t:TpD} (h:TpOk t) (k:Int):TpOk { t with segs:=delA k t.segs }:=
 ⟨h.room,Nat.le_trans (used_del k _) h.used,fun x hx=>h.syn x (del_sub hx),fun x hx=>h.keys x (del_sub hx),Nat.le_trans (del_len k _) h.few,h.fuse⟩
theorem drop_spec (HX:RowsX X A0) {b:Nat} {K:Nat→Nat} {A:St} (hA:Wld K A0 A) {p m:Nat} {t:TpD} (ht:TpC b K A p m t) {k:Int} :
  Ev D G0 fnsL X 162 [.ptr (some (p,0,0)),.int .i64 k] A fun r B=>Mod (fun f=>f=p∨f=m) A B∧TpC b K B p m (t.drop k).2∧r=.int .i64 (t.drop k).1:=by
 refine Ev.fnK (fn:=a162) rfl ⟨by simp[a162],by decide⟩ ?_
 unfold a162
 simp[qaq,allKnown]
 refine (there_spec ht).mono fun r B ⟨x1,h1⟩=>?_
 unfold TpD.drop
 rcases h1 with ⟨h0,rfl⟩|⟨h0,n,ty,u,hk,rfl,h2⟩
 ·rw[h0]
  simp[eqV,eqOf,qaq,allKnown]
  refine (spend_spec (ht.ext x1)).mono fun r C ⟨m1,h1,h2⟩=>?_
  have m01:Mod (fun f=>f=p∨f=m) A C:=(Mod.of_ext x1).trans (m1.mono fun f _ h=>.inl h)
  have hC:=hA.mod m01 ht.w
  have hsg:=spend_segs t
  rcases hsp:t.spend with ⟨b,t'⟩
  rw[hsp] at h1 h2 hsg
  cases b with
  | false=>
   rcases h2 with ⟨h,_⟩|⟨h0,n,ty,u,hk,rfl,h2⟩
   ·cases h
   simp[eqV,eqOf,qaq,allKnown]
   refine (qvq HX hC.glob (h2.ev hk)).mono fun r C2 ⟨e1,e2⟩=>?_
   subst e1 e2
   simp
   exact⟨m01,h1⟩
  | true=>
   rcases h2 with ⟨h,rfl⟩|⟨h0,_⟩
   rotate_left
   ·exact absurd rfl h0
   obtain⟨C2,e1,m2,h3⟩:=h1.del (k:=k) (ok_del h1.ok k)
   have l1:=h1.cl.ld 1 (v:=.map (some m)) rfl
   have m02:=m01.trans (m2.mono (W':=fun f=>f=p∨f=m) fun f _ h=>.inr h)
   simp[eqV,eqOf,AV.addr,l1,e1,qaq,allKnown]
   refine (qvq HX (hA.mod m02 ht.w).glob (EV.nil C2)).mono fun r C3 ⟨q1,q2⟩=>?_
   subst q1 q2
   simp
   exact⟨m02,h3⟩
 ·rw[if_pos h0]
  simp[eqV,eqOf,qaq,allKnown]
  refine (qvq HX (hA.glob.trans x1) (h2.ev hk)).mono fun r C ⟨e1,e2⟩=>?_
  subst e1 e2
  simp
  exact⟨Mod.of_ext x1,ht.ext x1⟩
theorem used_put (k:Int) (d:SegD):∀ l:List (Int × SegD),usedL (putA k d l)+((assoc k l).getD ⟨[],0⟩).b.length=usedL l+d.b.length
 | []=>by simp[putA,usedL]
 | (y,u)::l=>by
  simp only[putA,assoc]
  by_cases h:y=k
  ·rw[if_pos h,if_pos h];simp only[usedL,Option.getD_some];omega
  ·rw[if_neg h,if_neg h]
   have:=used_put k d l
   simp only[usedL];omega
theorem put_sub {k:Int} {d:SegD}:∀ {l:List (Int × SegD)} {x:Int × SegD},x∈putA k d l→x=(k,d)∨x∈l
 | [],x,h=>.inl (by simpa[putA] using h)
 | (y,u)::l,x,h=>by
  simp only[putA] at h
  split at h
  ·rcases List.mem_cons.1 h with rfl|h
   ·exact .inl rfl
   ·exact .inr (List.mem_cons_of_mem _ h)
  ·rcases List.mem_cons.1 h with rfl|h
   ·exact .inr List.mem_cons_self
   ·rcases put_sub h with h|h
    ·exact .inl h
    ·exact .inr (List.mem_cons_of_mem _ h)
theorem ok_put {t:TpD} (h:TpOk t) {k:Int} {d:SegD} (h0:0≤k∧k≤1048576) (hs:d.syn≤d.b.length) (hu:usedL t.segs+d.b.length≤1048576+(t.seg k).b.length) (hf:assoc k t.segs≠none∨t.segs.length<64):TpOk { t with segs:=putA k d t.segs }:=by
 have hp:=used_put k d t.segs
 refine⟨h.room,?_,fun x hx=>?_,fun x hx=>?_,?_,h.fuse⟩
 ·unfold TpD.seg at hu;simp only;omega
 ·rcases put_sub hx with rfl|hx
  ·exact hs
  ·exact h.syn x hx
 ·rcases put_sub hx with rfl|hx
  ·exact h0
  ·exact h.keys x hx
 ·simp only
  rw[length_put]
  have:=h.few
  split
  ·exact this
  ·rename_i hn
   rcases hf with hf|hf
   ·exact absurd (assoc_none.2 hn) hf
   ·omega
theorem there_zero {t:TpD} {k:Int} {made:Bool} (h:t.there k made=0):(0≤k∧k≤1048576)∧t.down=false∧(made=false→assoc k t.segs≠none):=by
 unfold TpD.there at h
 split at h
 ·cases h
 split at h
 ·cases h
 split at h
 ·cases h
 rename_i h1 h2 h3
 refine⟨by omega,by simpa using h2,fun hm hn=>h3 ⟨hm,hn⟩⟩
theorem sync_spec (HX:RowsX X A0) {b:Nat} {K:Nat→Nat} {A:St} (hA:Wld K A0 A) {p m:Nat} {t:TpD} (ht:TpC b K A p m t) {k:Int} :
  Ev D G0 fnsL X 161 [.ptr (some (p,0,0)),.int .i64 k] A fun r B=>Mod (fun f=>f=p∨f=m) A B∧TpC b K B p m (t.sync k).2∧r=.int .i64 (t.sync k).1:=by
 refine Ev.fnK (fn:=a161) rfl ⟨by simp[a161],by decide⟩ ?_
 unfold a161
 simp[qaq,allKnown]
 refine (there_spec ht).mono fun r B ⟨x1,h1⟩=>?_
 unfold TpD.sync
 rcases h1 with ⟨h0,rfl⟩|⟨h0,n,ty,u,hk,rfl,h2⟩
 ·rw[if_neg (by simp[h0])]
  have ht:=ht.ext x1
  obtain⟨z1,z2,z3⟩:=there_zero h0
  obtain⟨v,q1,q2,q3,q4⟩:=ht.look k
  have l1:=ht.cl.ld 1 (v:=.map (some m)) rfl
  have hlen:=q3.lenV
  simp[eqV,eqOf,AV.addr,l1,q2,hlen,qaq,allKnown,fieldV,partOf,fillA,splice,q3.notBot,q3.cells,aggV]
  refine (change_spec HX (hA.ext x1) ht (d:=⟨(t.seg k).b,(t.seg k).b.length⟩) q3 q4 (ok_put ht.ok z1 (Nat.le_refl _) (by have:=ht.ok.used;simp only;omega) (.inl (z3 rfl)))).mono fun r C ⟨e1,e2,e3⟩=>?_
  subst e3
  simp
  exact⟨(Mod.of_ext x1).trans e1,e2⟩
 ·rw[if_pos h0]
  simp[eqV,eqOf,qaq,allKnown]
  refine (qvq HX (hA.glob.trans x1) (h2.ev hk)).mono fun r C ⟨e1,e2⟩=>?_
  subst e1 e2
  simp
  exact⟨Mod.of_ext x1,ht.ext x1⟩
end
end Go.Proofs.YtlaoookdegmnnaaGreatDoor
