/- The abstract machine: arguments that are numbers, texts, truths, structs of such, slices of such structs. -/
import Derived.Test.YtlaoookdegmnnaaGreatDoorAmRun
import Derived.ProofKit
set_option linter.unusedVariables false
set_option linter.unusedSimpArgs false
namespace Go.AM

def Calls'.le (G G':Calls'):Prop:=∀ f args A r,G f args A=some r→G' f args A=some r

section
variable {D:Disp}

theorem quietOf_le {G G':Calls'} (h:G.le G') {f:FuncId} {args:List AV} {A:St} {r:AV} (e:quietOf G f args A=some r):quietOf G' f args A=some r:=by
 unfold quietOf at *
 split at e
 ·rename_i x B hx
  rw[h _ _ _ _ hx]
  exact e
 ·cases e
theorem opOf_le {G G':Calls'} (h:G.le G') {E:Env} {A:St} {op:AOp} {r:AV × St} (e:opOf D G E A op=some r):opOf D G' E A op=some r:=by
 unfold opOf at *
 split at e
 ·exact e
 ·exact e
 ·exact e
 ·exact e
 ·split at e
  ·rename_i f args hf
   cases hk:allKnown args with
   | false=>rw[hk] at e;cases e
   | true=>rw[hk] at e;exact h _ _ _ _ e
  ·cases e
 ·split at e
  ·rename_i f args hf
   cases hk:allKnown args with
   | false=>rw[hk] at e;cases e
   | true=>
    rw[hk,cond_true] at e
    split at e
    ·rename_i x hx
     rw[cond_true,quietOf_le h hx]
     exact e
    ·cases e
  ·cases e

theorem lookOf_le {G G':Calls'} (h:G.le G') {E:Env} {A:St} {op:AOp} {v:AV} (e:lookOf D G E A op=some v):lookOf D G' E A op=some v:=by
 unfold lookOf at *
 split at e
 ·rename_i x B hx
  rw[opOf_le h hx]
  exact e
 ·cases e
theorem sameIn_le {G G':Calls'} (h:G.le G') {tr:List (Env × St)} {E:Env} {op:AOp} {v v':Option AV} (hv:∀ u,v=some u→v'=some u):∀ {n q:Nat},sameIn D G tr E op v q n=true→sameIn D G' tr E op v' q n=true
 | 0,_,_=>rfl
 | n+1,q,e=>by
  simp only[sameIn] at *
  split at e
  ·rename_i x hx
   rw[Bool.and_eq_true] at *
   refine⟨?_,sameIn_le h hv e.2⟩
   have h1:=e.1
   cases ha:lookOf D G E x.2 op with
   | none=>rw[ha] at h1;cases h1
   | some a=>
    cases hb:v with
    | none=>rw[ha,hb] at h1;cases h1
    | some b=>
     rw[ha,hb] at h1
     rw[lookOf_le h ha,hv _ hb]
     exact h1
  ·cases e
theorem chkTr_le {G G':Calls'} (h:G.le G') {tr:List (Env × St)}:∀ {l:List (AOper × Nat × Nat)} {i:Nat},chkTr D G tr i l=true→chkTr D G' tr i l=true
 | [],_,_=>rfl
 | (o,lo,hi)::l,i,e=>by
  simp only[chkTr] at *
  rw[Bool.and_eq_true] at *
  refine⟨?_,chkTr_le h e.2⟩
  have h1:=e.1
  split at h1
  ·rename_i x hx
   cases hb:isLook o.op&&isTrue (wantedA x.1 o.guard) with
   | false=>rfl
   | true=>
    rw[hb,cond_true] at h1
    rw[cond_true]
    exact sameIn_le h (fun u hu=>lookOf_le h hu) h1
  ·cases h1

theorem opOfL_le {G G':Calls'} (h:G.le G') {E:Env} {A:St} {op:AOp} {r:AV × St} (e:opOfL D G E A op=some r):opOfL D G' E A op=some r:=by
 unfold opOfL at *
 split at e
 ·rename_i x hx;cases e;rw[opOf_le h hx]
 ·rename_i hx
  cases hc:op.cls with
  | call=>
   have hl:lateOf E A op=none:=by cases op<;>first|rfl|(simp[AOp.cls] at hc)
   rw[hl] at e;cases e
  | quiet=>
   have hl:lateOf E A op=none:=by cases op<;>first|rfl|(simp[AOp.cls] at hc)
   rw[hl] at e;cases e
  | _=>
   have:opOf D G' E A op=opOf D G E A op:=by unfold opOf;rw[hc]
   rw[this,hx];exact e
theorem opOfL_of {G:Calls'} {E:Env} {A:St} {op:AOp} {r:AV × St} (e:opOf D G E A op=some r):opOfL D G E A op=some r:=by
 unfold opOfL;rw[e]
theorem runOps_le {G G':Calls'} (h:G.le G'):∀ {l:List AOper} {E:Env} {A:St} {r:Env × St},runOps D G l E A=some r→runOps D G' l E A=some r
 | [],E,A,r,e=>e
 | o::l,E,A,r,e=>by
  simp only[runOps] at *
  split at e
  ·rename_i hw
   split at e
   ·rename_i v B hop
    rw[opOfL_le h hop]
    exact runOps_le h e
   ·cases e
  ·rename_i hw
   exact runOps_le h e
  ·cases e

theorem runTr_le {G G':Calls'} (h:G.le G'):∀ {l:List (AOper × Nat × Nat)} {E:Env} {A:St} {r:List (Env × St)},runTr D G l E A=some r→runTr D G' l E A=some r
 | [],E,A,r,e=>e
 | (o,lo,hi)::l,E,A,r,e=>by
  simp only[runTr] at *
  split at e
  ·rename_i hw
   split at e
   ·rename_i v B hop
    rw[opOf_le h hop]
    dsimp only
    split at e
    ·rename_i tr htr;rw[runTr_le h htr];exact e
    ·cases e
   ·cases e
  ·rename_i hw
   split at e
   ·rename_i tr htr;rw[runTr_le h htr];exact e
   ·cases e
  ·cases e

theorem loopN_le {g g':Env→St→Option (Ex × Env × St)} (h:∀ E A r,g E A=some r→g' E A=some r):∀ {n n':Nat},n≤n'→∀ {E:Env} {A:St} {r:Ex × Env × St},loopN g n E A=some r→loopN g' n' E A=some r
 | 0,_,_,_,_,_,e=>by cases e
 | n+1,0,hn,_,_,_,_=>by omega
 | n+1,n'+1,hn,E,A,r,e=>by
  simp only[loopN] at *
  cases hg:g E A with
  | none=>rw[hg] at e;cases e
  | some x=>
   rw[hg] at e;rw[h _ _ _ hg]
   obtain⟨ex,E',A'⟩:=x
   cases ex with
   | normal=>exact loopN_le h (by omega) e
   | exit i=>exact e
   | ret=>exact e

theorem interp_le {G G':Calls'} (h:G.le G') {n n':Nat} (hn:n≤n'):∀ {c:ACode} {E:Env} {A:St} {r:Ex × Env × St},interp D G n c E A=some r→interp D G' n' c E A=some r:=by
 intro c
 induction c with
 | skip=>intro E A r e;exact e
 | region ops=>
  intro E A r e
  simp only[interp] at *
  split at e
  ·rename_i E1 A1 hr;rw[runOps_le h hr];exact e
  ·cases e
 | draws l=>
  intro E A r e
  simp only[interp] at *
  split at e
  ·rename_i tr hr
   rw[runTr_le h hr]
   dsimp only
   cases hk:chkTr D G tr 0 l with
   | false=>rw[hk] at e;cases e
   | true=>rw[hk] at e;rw[chkTr_le h hk];exact e
  ·cases e
 | seq a b iha ihb=>
  intro E A r e
  simp only[interp] at *
  cases ha:interp D G n a E A with
  | none=>rw[ha] at e;cases e
  | some x=>
   rw[ha] at e;rw[iha ha]
   obtain⟨ex,E',A'⟩:=x
   cases ex with
   | normal=>exact ihb e
   | exit i=>exact e
   | ret=>exact e
 | cond c x y ihx ihy=>
  intro E A r e
  simp only[interp] at *
  split at e
  ·exact ihx e
  ·exact ihy e
  ·cases e
 | block id c ih=>
  intro E A r e
  simp only[interp] at *
  cases ha:interp D G n c E A with
  | none=>rw[ha] at e;cases e
  | some x=>rw[ha] at e;rw[ih ha];exact e
 | loop c ih=>
  intro E A r e
  simp only[interp] at *
  exact loopN_le (fun E A r=>ih) hn e
 | exit id=>intro E A r e;exact e
 | ret=>intro E A r e;exact e
 | rangeF f ps k a b=>
  intro E A r e
  simp only[interp] at *
  split at e
  rotate_left
  ·cases e
  rename_i g first captured hg
  cases hby:Nat.beq g yieldId with
  | true=>rw[hby] at e;cases e
  | false=>
   rw[hby] at e
   simp only[cond_false] at *
   split at e
   rotate_left
   ·cases e
   rename_i x B hx
   rw[h _ _ _ _ hx]
   exact e

theorem runRound_le {G G':Calls'} (h:G.le G') {n n':Nat} (hn:n≤n') {args:List AV} {A:St} {r:AV × St} (e:runRound D G n args A=some r):runRound D G' n' args A=some r:=by
 unfold runRound at *
 split at e
 rotate_left
 ·cases e
 rename_i l as
 split at e
 rotate_left
 ·cases e
 rename_i rec hg
 cases hc:Nat.beq rec.st 0&&Nat.beq as.length rec.ps.length with
 | false=>rw[hc] at e;cases e
 | true=>
 rw[hc] at e
 simp only[cond_true] at *
 split at e
 rotate_left
 ·cases e
 rename_i E1 A1 hr1
 rw[interp_le h hn hr1]
 simp only[]
 split at e
 rotate_left
 ·cases e
 rename_i r1 hg1
 cases hs:Nat.beq r1.st 0 with
 | false=>rw[hs] at e;cases e
 | true=>
 rw[hs] at e
 simp only[cond_true] at *
 split at e
 rotate_left
 ·cases e
 rename_i ex E2 A2 hr2
 rw[interp_le h hn hr2]
 exact e
theorem calls_le {G0:Env} {fns:Nat→Option AFn} {X:Calls'}:∀ {k k':Nat},k≤k'→(calls D G0 fns X k).le (calls D G0 fns X k')
 | 0,_,_=>fun f args A r e=>by cases e
 | k+1,0,h=>by omega
 | k+1,k'+1,h=>fun f args A r e=>by
  simp only[calls] at *
  split at e
  ·rename_i fn hf
   unfold runFn at *
   split at e
   ·rename_i hc
    rw[if_pos hc]
    cases hi:interp D (calls D G0 fns X k) k fn.body (setArgs 0 args G0) A with
    | none=>rw[hi] at e;cases e
    | some x=>rw[hi] at e;rw[interp_le (calls_le (by omega)) (by omega) hi];exact e
   ·cases e
  ·cases hby:Nat.beq f yieldId with
   | true=>
    rw[hby] at e
    simp only[cond_true] at *
    exact runRound_le (calls_le (by omega)) (by omega) e
   | false=>rw[hby] at e;exact e
end

section
variable (D:Disp) (G0:Env) (fns:Nat→Option AFn) (X:Calls')

def Ev (f:FuncId) (args:List AV) (A:St) (Q:AV→St→Prop):Prop:=∃ k r B,calls D G0 fns X k f args A=some (r,B)∧Q r B
def Wp (c:ACode) (E:Env) (A:St) (Q:Ex→Env→St→Prop):Prop:=∃ k ex E' A',interp D (calls D G0 fns X k) k c E A=some (ex,E',A')∧Q ex E' A'
def WpO (l:List AOper) (E:Env) (A:St) (Q:Env→St→Prop):Prop:=∃ k E' A',runOps D (calls D G0 fns X k) l E A=some (E',A')∧Q E' A'
end
section
variable {D:Disp} {G0:Env} {fns:Nat→Option AFn} {X:Calls'}

theorem Ev.mono {f:FuncId} {args:List AV} {A:St} {Q Q':AV→St→Prop} (h:Ev D G0 fns X f args A Q) (hq:∀ r B,Q r B→Q' r B):Ev D G0 fns X f args A Q':=
 let ⟨k,r,B,h1,h2⟩:=h;⟨k,r,B,h1,hq r B h2⟩
theorem Wp.mono {c:ACode} {E:Env} {A:St} {Q Q':Ex→Env→St→Prop} (h:Wp D G0 fns X c E A Q) (hq:∀ ex E A,Q ex E A→Q' ex E A):Wp D G0 fns X c E A Q':=
 let ⟨k,ex,E',A',h1,h2⟩:=h;⟨k,ex,E',A',h1,hq _ _ _ h2⟩

theorem WpO.nil {E:Env} {A:St} {Q:Env→St→Prop} (h:Q E A):WpO D G0 fns X [] E A Q:=⟨0,E,A,rfl,h⟩
theorem WpO.op {o:AOper} {l:List AOper} {E:Env} {A:St} {Q:Env→St→Prop} {v:AV} {B:St} (hw:wantedA E o.guard=some true) (hop:∀ G,opOf D G E A o.op=some (v,B)) (h:WpO D G0 fns X l (Env.put E o.dst v) B Q):WpO D G0 fns X (o::l) E A Q:=by
 obtain⟨k,E',A',h1,h2⟩:=h
 exact⟨k,E',A',by simp only[runOps,hw,opOfL_of (hop _)];exact h1,h2⟩
theorem WpO.call {o:AOper} {l:List AOper} {E:Env} {A:St} {Q:Env→St→Prop} {f:FuncId} {args:List AV} (hw:wantedA E o.guard=some true) (hcls:o.op.cls=.call) (hf:calleeOf D E A o.op=some (f,args)) (hk:allKnown args=true)
  (h:Ev D G0 fns X f args A fun r B=>WpO D G0 fns X l (Env.put E o.dst r) B Q):WpO D G0 fns X (o::l) E A Q:=by
 obtain⟨k1,r,B,h1,k2,E',A',h2,h3⟩:=h
 refine⟨max k1 k2,E',A',?_,h3⟩
 have hop:opOf D (calls D G0 fns X (max k1 k2)) E A o.op=some (r,B):=by
  simp only[opOf,hcls,hf,hk,cond_true]
  exact calls_le (Nat.le_max_left k1 k2) _ _ _ _ h1
 simp only[runOps,hw,opOfL_of hop]
 exact runOps_le (calls_le (Nat.le_max_right k1 k2)) h2

theorem Wp.skip {E:Env} {A:St} {Q:Ex→Env→St→Prop} (h:Q .normal E A):Wp D G0 fns X .skip E A Q:=⟨0,_,_,_,rfl,h⟩
theorem Wp.exit {id:Nat} {E:Env} {A:St} {Q:Ex→Env→St→Prop} (h:Q (.exit id) E A):Wp D G0 fns X (.exit id) E A Q:=⟨0,_,_,_,rfl,h⟩
theorem Wp.ret {E:Env} {A:St} {Q:Ex→Env→St→Prop} (h:Q .ret E A):Wp D G0 fns X .ret E A Q:=⟨0,_,_,_,rfl,h⟩
theorem Wp.region {l:List AOper} {E:Env} {A:St} {Q:Ex→Env→St→Prop} (h:WpO D G0 fns X l E A (Q .normal)):Wp D G0 fns X (.region l) E A Q:=by
 obtain⟨k,E',A',h1,h2⟩:=h
 exact⟨k,.normal,E',A',by simp only[interp,h1],h2⟩
theorem Wp.seq {a b:ACode} {E:Env} {A:St} {Q:Ex→Env→St→Prop} (h:Wp D G0 fns X a E A fun ex E' A'=>match ex with|.normal=>Wp D G0 fns X b E' A' Q|ex=>Q ex E' A'):Wp D G0 fns X (.seq a b) E A Q:=by
 obtain⟨k1,ex,E1,A1,h1,h2⟩:=h
 cases ex with
 | normal=>
  obtain⟨k2,ex2,E2,A2,h3,h4⟩:=h2
  refine⟨max k1 k2,ex2,E2,A2,?_,h4⟩
  simp only[interp]
  rw[interp_le (calls_le (Nat.le_max_left k1 k2)) (Nat.le_max_left k1 k2) h1]
  exact interp_le (calls_le (Nat.le_max_right k1 k2)) (Nat.le_max_right k1 k2) h3
 | exit i=>exact⟨k1,_,_,_,by simp only[interp,h1],h2⟩
 | ret=>exact⟨k1,_,_,_,by simp only[interp,h1],h2⟩
theorem Wp.yes {c:Operand} {x y:ACode} {E:Env} {A:St} {Q:Ex→Env→St→Prop} (hc:ev E c=.bool true) (h:Wp D G0 fns X x E A Q):Wp D G0 fns X (.cond c x y) E A Q:=by
 obtain⟨k,ex,E',A',h1,h2⟩:=h
 exact⟨k,ex,E',A',by simp only[interp,hc];exact h1,h2⟩
theorem Wp.no {c:Operand} {x y:ACode} {E:Env} {A:St} {Q:Ex→Env→St→Prop} (hc:ev E c=.bool false) (h:Wp D G0 fns X y E A Q):Wp D G0 fns X (.cond c x y) E A Q:=by
 obtain⟨k,ex,E',A',h1,h2⟩:=h
 exact⟨k,ex,E',A',by simp only[interp,hc];exact h1,h2⟩
theorem Wp.block {id:Nat} {c:ACode} {E:Env} {A:St} {Q:Ex→Env→St→Prop} (h:Wp D G0 fns X c E A fun ex E' A'=>match ex with|.exit i=>if i=id then Q .normal E' A' else Q (.exit i) E' A'|ex=>Q ex E' A'):Wp D G0 fns X (.block id c) E A Q:=by
 obtain⟨k,ex,E1,A1,h1,h2⟩:=h
 cases ex with
 | normal=>exact⟨k,_,_,_,by simp only[interp,h1],h2⟩
 | ret=>exact⟨k,_,_,_,by simp only[interp,h1],h2⟩
 | exit i=>
  simp only at h2
  by_cases hi:i=id
  ·rw[if_pos hi] at h2;exact⟨k,_,_,_,by simp only[interp,h1];rw[if_pos hi],h2⟩
  ·rw[if_neg hi] at h2;exact⟨k,_,_,_,by simp only[interp,h1];rw[if_neg hi],h2⟩
theorem Wp.loop {c:ACode} {Q:Ex→Env→St→Prop} (I:Nat→Env→St→Prop) (round:∀ d E A,I d E A→Wp D G0 fns X c E A fun ex E' A'=>match ex with|.normal=>∃ d',d'<d∧I d' E' A'|ex=>Q ex E' A') :
  ∀ (d:Nat) (E:Env) (A:St),I d E A→Wp D G0 fns X (.loop c) E A Q:=by
 have key:∀ (d:Nat) (E:Env) (A:St),I d E A→∃ k ex E' A',loopN (interp D (calls D G0 fns X k) k c) k E A=some (ex,E',A')∧Q ex E' A':=by
  intro d
  induction d using Nat.strongRecOn with
  | _ d ih=>
   intro E A h
   obtain⟨k1,ex,E1,A1,h1,h2⟩:=round d E A h
   cases ex with
   | normal=>
    obtain⟨d',hd,hI⟩:=h2
    obtain⟨k2,ex2,E2,A2,h3,h4⟩:=ih d' hd E1 A1 hI
    refine⟨max k1 k2+1,ex2,E2,A2,?_,h4⟩
    simp only[loopN]
    rw[interp_le (calls_le (by omega)) (by omega) h1]
    exact loopN_le (fun E A r e=>interp_le (calls_le (by omega)) (by omega) e) (by omega) h3
   | exit i=>exact⟨k1+1,_,_,_,by simp only[loopN];rw[interp_le (calls_le (Nat.le_succ k1)) (Nat.le_succ k1) h1],h2⟩
   | ret=>exact⟨k1+1,_,_,_,by simp only[loopN];rw[interp_le (calls_le (Nat.le_succ k1)) (Nat.le_succ k1) h1],h2⟩
 intro d E A h
 obtain⟨k,ex,E',A',h1,h2⟩:=key d E A h
 exact⟨k,ex,E',A',by simp only[interp];exact h1,h2⟩
theorem Ev.fn {f:FuncId} {fn:AFn} (hf:fns f=some fn) {args:List AV} {A:St} {Q:AV→St→Prop} (hn:args.length≤fn.n∧fn.n≤1000000)
  (h:Wp D G0 fns X fn.body (setArgs 0 args G0) A fun ex E B=>match ex with|.exit _=>False|_=>∃ l,resVals E B fn.res=some l∧Q (packRes l) B):Ev D G0 fns X f args A Q:=by
 obtain⟨k,ex,E',A',h1,h2⟩:=h
 have fin:(∃ l,resVals E' A' fn.res=some l∧Q (packRes l) A')→(∀ i,ex≠.exit i)→Ev D G0 fns X f args A Q:=fun ⟨l,h3,h4⟩ hx=>by
  refine⟨k+1,packRes l,A',?_,h4⟩
  simp only[calls,hf,runFn]
  rw[if_pos hn,h1]
  cases ex with
  | exit i=>exact absurd rfl (hx i)
  | normal=>simp only[h3]
  | ret=>simp only[h3]
 cases ex with
 | exit i=>exact h2.elim
 | normal=>exact fin h2 (fun i=>by simp)
 | ret=>exact fin h2 (fun i=>by simp)
end

@[simp] theorem at_put (E:Env) (i j:Nat) (v:AV):Env.at (Env.put E (some i) v) j=if j=i then v else Env.at E j:=by
 unfold Env.at Env.put
 dsimp only
 rw[T.get_set]
 split<;>rfl
@[simp] theorem put_none (E:Env) (v:AV):Env.put E none v=E:=rfl
@[simp] theorem setArgs_none (i:Nat) (E:Env):setArgs i [] E=E:=rfl
@[simp] theorem at_nil (j:Nat):Env.at (T.nil:Env) j=.bot:=rfl
@[simp] theorem setArgs_put (i:Nat) (a:AV) (l:List AV) (E:Env):setArgs i (a::l) E=setArgs (i+1) l (Env.put E (some i) a):=rfl
@[simp] theorem ev_tmp (E:Env) (t:Nat) (h:t<1000000):ev E (.tmp t)=Env.at E t:=by
 show (bif Nat.blt t 1000000 then Env.at E t else .bot)=_
 rw[show Nat.blt t 1000000=true from by rw[Nat.blt_eq];exact h]
 rfl
@[simp] theorem ev_const (E:Env) (v:Value):ev E (.const v)=constAV v:=rfl
@[simp] theorem ev_func (E:Env) (f:FuncId):ev E (.func f)=.func (.func f) [] []:=rfl
@[simp] theorem constAV_int (k:IntKind) (n:Int):constAV (.int k n)=.int k n:=rfl
@[simp] theorem constAV_bool (b:Bool):constAV (.bool b)=.bool b:=rfl
@[simp] theorem constAV_nilSlice:constAV (.slice none 0 0)=.slice none 0 0 0 0:=rfl
@[simp] theorem constAV_nilPtr:constAV (.pointer none)=.ptr none:=rfl
@[simp] theorem constAV_nilMap:constAV (.map none)=.map none:=rfl
@[simp] theorem constAV_nilIface:constAV .nilIface=.nilIface:=rfl
@[simp] theorem constAV_nilFunc:constAV .nilFunc=.nilFunc:=rfl
@[simp] theorem constAV_str (s:ByteArray):constAV (.string s)=.str s.data.toList:=rfl
@[simp] theorem evs_nil (E:Env):evs E []=[]:=rfl
@[simp] theorem evs_cons (E:Env) (x:Operand) (l:List Operand):evs E (x::l)=ev E x::evs E l:=rfl
@[simp] theorem evo_none (E:Env):evo E none=none:=rfl
@[simp] theorem evo_some (E:Env) (x:Operand):evo E (some x)=some (ev E x):=rfl
@[simp] theorem evParts_nil (E:Env):evParts E []=[]:=rfl
@[simp] theorem evParts_cons (E:Env) (o s:Nat) (x:Operand) (l:List (Nat × Nat × Operand)):evParts E ((o,s,x)::l)=(o,s,ev E x)::evParts E l:=rfl

def pickV (c a b:AV):Option AV:=
 match c with
 | .bool t=>some (bif t then a else b)
 | _=>none
@[simp] theorem pickV_bool (t:Bool) (a b:AV):pickV (.bool t) a b=some (bif t then a else b):=rfl
def eqbV (neg:Bool):AV→AV→Option AV
 | .bool b,.bool c=>some (.bool (bif neg then !(b == c) else b == c))
 | _,_=>none
def convV (k:IntKind):AV→Option AV
 | .int _ n=>some (.int k (k.wrap n))
 | _=>none
def sameV:AV→Option AV
 | .str s=>some (.str s)
 | _=>none
def extractV (i:Nat):AV→Option AV
 | .tuple vs=>vs[i]?
 | _=>none
def nilCheckV:AV→Option AV
 | .ptr (some p)=>some (.ptr (some p))
 | _=>none
def fieldAddrV (off:Nat):AV→Option AV
 | .ptr (some p)=>some (AV.addr p off)
 | _=>none
def fieldV (off size:Nat) (agg:Bool):AV→Option AV
 | .agg cs=>partOf agg cs off size
 | _=>none
def atSliceV (size:Nat) (x i:AV):Option AV:=
 match x with
 | .slice (some p) _ len _ _=>match index? len i with|some j=>some (AV.addr p (j*size))|none=>none
 | _=>none
def atArrayV (n size:Nat) (x i:AV):Option AV:=
 match x with
 | .ptr (some p)=>match index? n i with|some j=>some (AV.addr p (j*size))|none=>none
 | _=>none
def byteAtV (x i:AV):Option AV:=
 match x with
 | .str s=>match index? s.length i with|some j=>(match s[j]? with|some b=>some (.int .u8 b.toNat)|none=>none)|none=>none
 | _=>none
def elemAtV (n size:Nat) (agg:Bool) (x i:AV):Option AV:=
 match x with
 | .agg cs=>match index? n i with|some j=>partOf agg cs (j*size) size|none=>none
 | _=>none
def cutStrV (x:AV) (lo hi:Option AV):Option AV:=
 match x with
 | .str s=>match boundHi hi s.length s.length with
  | some h=>(match boundLo lo h with|some l=>some (.str ((s.take h).drop l))|none=>none)
  | none=>none
 | _=>none
def isTypeV (t:TypeId) (zero:AV) (ok:Bool):AV→Option AV
 | .nilIface=>bif ok then some (.tuple [zero,.bool false]) else none
 | .iface d v=>if d=t then some (bif ok then .tuple [v,.bool true] else v) else bif ok then some (.tuple [zero,.bool false]) else none
 | _=>none
def lenStrV:AV→Option AV
 | .str s=>some (.int .i64 s.length)
 | _=>none
def lenV:AV→Option AV
 | .slice _ _ n _ _=>some (.int .i64 n)
 | _=>none
def mkIfaceV (t:TypeId):AV→Option AV
 | .bot=>none
 | v=>some (.iface t v)
def aggV:Option (List AV)→Option AV
 | some l=>some (.agg l)
 | none=>none
def loadV (A:St) (n:Nat) (agg:Bool):AV→Option AV
 | .ptr (some p)=>match A.cells p n with
  | some l=>bif agg then some (.agg l) else (match l with|[v]=>some v|_=>none)
  | none=>none
 | _=>none
def textV (A:St):AV→Option AV
 | .slice none _ _ _ _=>some (.str [])
 | .slice (some p) _ len _ _=>match A.cells p len with
  | some l=>(match textGo l with|some s=>some (.str s)|none=>none)
  | none=>none
 | _=>none
def eqV (A:St) (k:EqK) (neg:Bool) (x y:AV):Option AV:=
 match (match eqOf k x y with|some b=>some b|none=>eqFar A k x y) with
 | some b=>some (.bool (bif neg then !b else b))
 | none=>none
def boxV:AV→Option (List AV × Nat × Made)
 | .bot=>none
 | .tuple _=>none
 | v=>some (v.cells,1,.ptr)
def builtV (n size:Nat):Option (List AV)→Option (List AV × Nat × Made)
 | some l=>some (l,size,.slice n n 0)
 | none=>none
def storeV (A:St) (n:Nat) (a x:AV):Option (AV × St):=
 match a with
 | .ptr (some p)=>match x with
  | .bot=>none
  | v=>if v.cells.length=n then match A.write p v.cells with|some B=>some (.bot,B)|none=>none else none
 | _=>none
def appendV (A:St) (str:Bool) (size bytes:Nat) (s x:AV):Option (AV × St):=bif okSrc str x then appendOf A size bytes s x else none

def makeV (size bytes:Nat) (zero:List AV) (len cap:AV):Option (List AV × Nat × Made):=
 match len,cap with
 | .int _ l,.int _ c=>if 0≤l∧l≤c∧c*bytes≤140737488355328∧c≤4611686018427387904∧zero.length=size then some ((List.replicate c.toNat zero).flatten,size,.slice l.toNat c.toNat 0) else none
 | _,_=>none
theorem makeV_nat {size bytes:Nat} {zero:List AV} {k j:IntKind} {l c:Nat} (h:l≤c) (hb:c*bytes≤140737488355328) (hc:c≤4611686018427387904) (hz:zero.length=size) :
  makeV size bytes zero (.int k l) (.int j c)=some ((List.replicate c zero).flatten,size,.slice l c 0):=by
 unfold makeV
 dsimp only
 have hb':(c:Int)*(bytes:Int)≤140737488355328:=by rw[←Int.natCast_mul];omega
 rw[if_pos ⟨by omega,by omega,hb',by omega,hz⟩,Int.toNat_natCast,Int.toNat_natCast]
@[simp] theorem ver_ptr:Made.ver .ptr=0:=rfl
@[simp] theorem ver_slice (l c q:Nat):Made.ver (.slice l c q)=0:=rfl
@[simp] theorem ver_text (l:Nat):Made.ver (.text l)=1:=rfl
@[simp] theorem makeV_zero (A:St) (cs:List AV) (sz:Nat):A.makeV cs sz 0=A.make cs sz:=rfl
@[simp] theorem eqbV_bool (neg b c:Bool):eqbV neg (.bool b) (.bool c)=some (.bool (bif neg then !(b == c) else b == c)):=rfl
@[simp] theorem qhq (k j:IntKind) (n:Int):convV k (.int j n)=some (.int k (k.wrap n)):=rfl
@[simp] theorem sameV_str (s:List UInt8):sameV (.str s)=some (.str s):=rfl
@[simp] theorem extractV_tuple (i:Nat) (vs:List AV):extractV i (.tuple vs)=vs[i]?:=rfl
@[simp] theorem nilCheckV_ptr (p:Pl):nilCheckV (.ptr (some p))=some (.ptr (some p)):=rfl
@[simp] theorem fieldAddrV_ptr (off:Nat) (p:Pl):fieldAddrV off (.ptr (some p))=some (AV.addr p off):=rfl
@[simp] theorem fieldV_agg (off size:Nat) (agg:Bool) (cs:List AV):fieldV off size agg (.agg cs)=partOf agg cs off size:=rfl
@[simp] theorem lenStrV_str (s:List UInt8):lenStrV (.str s)=some (.int .i64 s.length):=rfl
@[simp] theorem lenV_slice (a:Option Pl) (po n cap q:Nat):lenV (.slice a po n cap q)=some (.int .i64 n):=rfl
@[simp] theorem aggV_some (l:List AV):aggV (some l)=some (.agg l):=rfl
@[simp] theorem builtV_some (n size:Nat) (l:List AV):builtV n size (some l)=some (l,size,.slice n n 0):=rfl
@[simp] theorem isTypeV_nil (t:TypeId) (zero:AV):isTypeV t zero true .nilIface=some (.tuple [zero,.bool false]):=rfl
@[simp] theorem isTypeV_iface (t:TypeId) (zero:AV) (ok:Bool) (d:TypeId) (v:AV):isTypeV t zero ok (.iface d v)=if d=t then some (bif ok then .tuple [v,.bool true] else v) else bif ok then some (.tuple [zero,.bool false]) else none:=rfl
@[simp] theorem byteAtV_str (s:List UInt8) (i:AV):byteAtV (.str s) i=match index? s.length i with|some j=>(match s[j]? with|some b=>some (.int .u8 b.toNat)|none=>none)|none=>none:=rfl
@[simp] theorem elemAtV_agg (n size:Nat) (agg:Bool) (cs:List AV) (i:AV):elemAtV n size agg (.agg cs) i=match index? n i with|some j=>partOf agg cs (j*size) size|none=>none:=rfl
@[simp] theorem atArrayV_ptr (n size:Nat) (p:Pl) (i:AV):atArrayV n size (.ptr (some p)) i=match index? n i with|some j=>some (AV.addr p (j*size))|none=>none:=rfl

section
variable (D:Disp) (G0:Env) (fns:Nat→Option AFn) (X:Calls')

def contV (o:Option AV) (d:Option Nat) (l:List AOper) (E:Env) (A:St) (Q:Ex→Env→St→Prop):Prop:=
 match o with
 | some v=>WpO D G0 fns X l (Env.put E d v) A (Q .normal)
 | none=>False
def contL (o o':Option AV) (d:Option Nat) (l:List AOper) (E:Env) (A:St) (Q:Ex→Env→St→Prop):Prop:=
 match o with
 | some v=>WpO D G0 fns X l (Env.put E d v) A (Q .normal)
 | none=>match o' with
  | some v=>WpO D G0 fns X l (Env.put E d v) A (Q .normal)
  | none=>False
def contP (o:Option (AV × St)) (d:Option Nat) (l:List AOper) (E:Env) (Q:Ex→Env→St→Prop):Prop:=
 match o with
 | some (v,B)=>WpO D G0 fns X l (Env.put E d v) B (Q .normal)
 | none=>False
def contN (o:Option (List AV × Nat × Made)) (d:Option Nat) (l:List AOper) (E:Env) (A:St) (Q:Ex→Env→St→Prop):Prop:=
 match o with
 | some (cs,sz,md)=>WpO D G0 fns X l (Env.put E d (md.value A.next)) (A.makeV cs sz md.ver).2 (Q .normal)
 | none=>False
def contR (d:Option Nat) (l:List AOper) (E:Env) (Q:Ex→Env→St→Prop) (r:AV) (B:St):Prop:=WpO D G0 fns X l (Env.put E d r) B (Q .normal)
def Ops (l:List AOper) (E:Env) (A:St) (Q:Ex→Env→St→Prop):Prop:=WpO D G0 fns X l E A (Q .normal)
def contG (v:AV) (b:Bool) (o:AOper) (l:List AOper) (E:Env) (A:St) (Q:Ex→Env→St→Prop):Prop:=
 match v with
 | .bool c=>if c=b then Ops D G0 fns X (⟨o.dst,o.op,none⟩::l) E A Q else Ops D G0 fns X l (Env.put E o.dst (.tuple [])) A Q
 | .tuple []=>Ops D G0 fns X l (Env.put E o.dst (.tuple [])) A Q
 | _=>False
def contC (v:AV) (x y:ACode) (E:Env) (A:St) (Q:Ex→Env→St→Prop):Prop:=
 match v with
 | .bool true=>Wp D G0 fns X x E A Q
 | .bool false=>Wp D G0 fns X y E A Q
 | _=>False
def seqK (b:ACode) (Q:Ex→Env→St→Prop) (ex:Ex) (E:Env) (A:St):Prop:=
 match ex with
 | .normal=>Wp D G0 fns X b E A Q
 | ex=>Q ex E A
def blkK (id:Nat) (Q:Ex→Env→St→Prop) (ex:Ex) (E:Env) (A:St):Prop:=
 match ex with
 | .exit i=>if i=id then Q .normal E A else Q (.exit i) E A
 | ex=>Q ex E A
def fnK (res:List ARes) (Q:AV→St→Prop) (ex:Ex) (E:Env) (A:St):Prop:=
 match ex with
 | .exit _=>False
 | _=>∃ l,resVals E A res=some l∧Q (packRes l) A
end

section
variable {D:Disp} {G0:Env} {fns:Nat→Option AFn} {X:Calls'}

@[simp] theorem contV_some (v:AV) (d:Option Nat) (l:List AOper) (E:Env) (A:St) (Q:Ex→Env→St→Prop):contV D G0 fns X (some v) d l E A Q=Ops D G0 fns X l (Env.put E d v) A Q:=rfl
@[simp] theorem contL_some (v:AV) (o':Option AV) (d:Option Nat) (l:List AOper) (E:Env) (A:St) (Q:Ex→Env→St→Prop):contL D G0 fns X (some v) o' d l E A Q=Ops D G0 fns X l (Env.put E d v) A Q:=rfl
@[simp] theorem contL_late (v:AV) (d:Option Nat) (l:List AOper) (E:Env) (A:St) (Q:Ex→Env→St→Prop):contL D G0 fns X none (some v) d l E A Q=Ops D G0 fns X l (Env.put E d v) A Q:=rfl
@[simp] theorem contP_some (v:AV) (B:St) (d:Option Nat) (l:List AOper) (E:Env) (Q:Ex→Env→St→Prop):contP D G0 fns X (some (v,B)) d l E Q=Ops D G0 fns X l (Env.put E d v) B Q:=rfl
@[simp] theorem contN_some (cs:List AV) (sz:Nat) (md:Made) (d:Option Nat) (l:List AOper) (E:Env) (A:St) (Q:Ex→Env→St→Prop):contN D G0 fns X (some (cs,sz,md)) d l E A Q=Ops D G0 fns X l (Env.put E d (md.value A.next)) (A.makeV cs sz md.ver).2 Q:=rfl
@[simp] theorem contR_eq (d:Option Nat) (l:List AOper) (E:Env) (Q:Ex→Env→St→Prop) (r:AV) (B:St):contR D G0 fns X d l E Q r B=Ops D G0 fns X l (Env.put E d r) B Q:=rfl
@[simp] theorem contG_bool (c b:Bool) (o:AOper) (l:List AOper) (E:Env) (A:St) (Q:Ex→Env→St→Prop):contG D G0 fns X (.bool c) b o l E A Q=if c=b then Ops D G0 fns X (⟨o.dst,o.op,none⟩::l) E A Q else Ops D G0 fns X l (Env.put E o.dst (.tuple [])) A Q:=rfl
@[simp] theorem contG_none (b:Bool) (o:AOper) (l:List AOper) (E:Env) (A:St) (Q:Ex→Env→St→Prop):contG D G0 fns X (.tuple []) b o l E A Q=Ops D G0 fns X l (Env.put E o.dst (.tuple [])) A Q:=rfl
@[simp] theorem contC_true (x y:ACode) (E:Env) (A:St) (Q:Ex→Env→St→Prop):contC D G0 fns X (.bool true) x y E A Q=Wp D G0 fns X x E A Q:=rfl
@[simp] theorem contC_false (x y:ACode) (E:Env) (A:St) (Q:Ex→Env→St→Prop):contC D G0 fns X (.bool false) x y E A Q=Wp D G0 fns X y E A Q:=rfl
theorem qeq {b:Bool} {x y:ACode} {E:Env} {A:St} {Q:Ex→Env→St→Prop} (ht:b=true→Wp D G0 fns X x E A Q) (hf:b=false→Wp D G0 fns X y E A Q):contC D G0 fns X (.bool b) x y E A Q:=by
 cases b with
 | true=>exact ht rfl
 | false=>exact hf rfl
@[simp] theorem seqK_normal (b:ACode) (Q:Ex→Env→St→Prop) (E:Env) (A:St):seqK D G0 fns X b Q .normal E A=Wp D G0 fns X b E A Q:=rfl
@[simp] theorem seqK_exit (b:ACode) (Q:Ex→Env→St→Prop) (i:Nat) (E:Env) (A:St):seqK D G0 fns X b Q (.exit i) E A=Q (.exit i) E A:=rfl
@[simp] theorem seqK_ret (b:ACode) (Q:Ex→Env→St→Prop) (E:Env) (A:St):seqK D G0 fns X b Q .ret E A=Q .ret E A:=rfl
@[simp] theorem blkK_normal (id:Nat) (Q:Ex→Env→St→Prop) (E:Env) (A:St):blkK id Q .normal E A=Q .normal E A:=rfl
@[simp] theorem blkK_ret (id:Nat) (Q:Ex→Env→St→Prop) (E:Env) (A:St):blkK id Q .ret E A=Q .ret E A:=rfl
@[simp] theorem blkK_exit (id i:Nat) (Q:Ex→Env→St→Prop) (E:Env) (A:St):blkK id Q (.exit i) E A=if i=id then Q .normal E A else Q (.exit i) E A:=rfl
@[simp] theorem fnK_normal (res:List ARes) (Q:AV→St→Prop) (E:Env) (A:St):fnK res Q .normal E A=∃ l,resVals E A res=some l∧Q (packRes l) A:=rfl
@[simp] theorem fnK_ret (res:List ARes) (Q:AV→St→Prop) (E:Env) (A:St):fnK res Q .ret E A=∃ l,resVals E A res=some l∧Q (packRes l) A:=rfl

@[simp] theorem ops_nil (E:Env) (A:St) (Q:Ex→Env→St→Prop):Ops D G0 fns X [] E A Q=Q .normal E A:=
 propext ⟨fun ⟨k,E',A',h1,h2⟩=>by cases h1;exact h2,fun h=>WpO.nil h⟩

theorem late_none {op:AOp} (hc:op.cls≠.pure) (E:Env) (A:St):lateOf E A op=none:=by cases op<;>first|rfl|(simp[AOp.cls] at hc)
theorem opL_none {D:Disp} {G:Calls'} {E:Env} {A:St} {op:AOp} (hl:lateOf E A op=none):opOfL D G E A op=opOf D G E A op:=by
 unfold opOfL
 split
 ·rename_i r hr;rw[hr]
 ·rename_i hr;rw[hl,hr]

theorem ops_pure {op:AOp} (hc:op.cls=.pure) (hlate:∀ E A,lateOf E A op=none) (d:Option Nat) (l:List AOper) (E:Env) (A:St) (Q:Ex→Env→St→Prop):Ops D G0 fns X (⟨d,op,none⟩::l) E A Q=contV D G0 fns X (pureOf E op) d l E A Q:=by
 refine propext ⟨fun ⟨k,E',A',h1,h2⟩=>?_,fun h=>?_⟩
 ·simp only[runOps,wantedA,opL_none (hlate _ _),opOf,hc] at h1
  split at h1
  ·rename_i v B hv
   split at hv
   ·rename_i u hu;cases hv;rw[hu];exact⟨k,E',A',h1,h2⟩
   ·cases hv
  ·cases h1
 ·unfold contV at h
  split at h
  ·rename_i v hv
   exact WpO.op rfl (fun G=>by simp only[opOf,hc,hv]) h
  ·exact h.elim
theorem ops_read {op:AOp} (hc:op.cls=.read) (d:Option Nat) (l:List AOper) (E:Env) (A:St) (Q:Ex→Env→St→Prop):Ops D G0 fns X (⟨d,op,none⟩::l) E A Q=contV D G0 fns X (readOf E A op) d l E A Q:=by
 refine propext ⟨fun ⟨k,E',A',h1,h2⟩=>?_,fun h=>?_⟩
 ·simp only[runOps,wantedA,opL_none (late_none (by rw[hc];simp) _ _),opOf,hc] at h1
  split at h1
  ·rename_i v B hv
   split at hv
   ·rename_i u hu;cases hv;rw[hu];exact⟨k,E',A',h1,h2⟩
   ·cases hv
  ·cases h1
 ·unfold contV at h
  split at h
  ·rename_i v hv
   exact WpO.op rfl (fun G=>by simp only[opOf,hc,hv]) h
  ·exact h.elim
theorem ops_new {op:AOp} (hc:op.cls=.new) (d:Option Nat) (l:List AOper) (E:Env) (A:St) (Q:Ex→Env→St→Prop):Ops D G0 fns X (⟨d,op,none⟩::l) E A Q=contN D G0 fns X (newOf E op) d l E A Q:=by
 refine propext ⟨fun ⟨k,E',A',h1,h2⟩=>?_,fun h=>?_⟩
 ·simp only[runOps,wantedA,opL_none (late_none (by rw[hc];simp) _ _),opOf,hc] at h1
  split at h1
  ·rename_i v B hv
   split at hv
   ·rename_i cs sz md hu;cases hv;rw[hu];exact⟨k,E',A',h1,h2⟩
   ·cases hv
  ·cases h1
 ·unfold contN at h
  split at h
  ·rename_i cs sz md hv
   exact WpO.op (v:=md.value A.next) (B:=(A.makeV cs sz md.ver).2) rfl (fun G=>by simp only[opOf,hc,hv];rfl) h
  ·exact h.elim
theorem ops_eff {op:AOp} (hc:op.cls=.eff) (d:Option Nat) (l:List AOper) (E:Env) (A:St) (Q:Ex→Env→St→Prop):Ops D G0 fns X (⟨d,op,none⟩::l) E A Q=contP D G0 fns X (effOf E A op) d l E Q:=by
 refine propext ⟨fun ⟨k,E',A',h1,h2⟩=>?_,fun h=>?_⟩
 ·simp only[runOps,wantedA,opL_none (late_none (by rw[hc];simp) _ _),opOf,hc] at h1
  split at h1
  ·rename_i v B hv
   rw[hv];exact⟨k,E',A',h1,h2⟩
  ·cases h1
 ·unfold contP at h
  split at h
  ·rename_i v B hv
   exact WpO.op rfl (fun G=>by simp only[opOf,hc,hv]) h
  ·exact h.elim
theorem qaq (f:FuncId) (args:List Operand) (d:Option Nat) (l:List AOper) (E:Env) (A:St) (Q:Ex→Env→St→Prop) (hk:allKnown (evs E args)=true):Ops D G0 fns X (⟨d,.call f args,none⟩::l) E A Q=Ev D G0 fns X f (evs E args) A (contR D G0 fns X d l E Q):=by
 refine propext ⟨fun ⟨k,E',A',h1,h2⟩=>?_,fun h=>WpO.call rfl rfl rfl hk h⟩
 simp only[runOps,wantedA,opL_none (late_none (op:=.call f args) (by simp[AOp.cls]) _ _),opOf,AOp.cls,calleeOf,hk,cond_true] at h1
 split at h1
 ·rename_i v B hv
  exact⟨k,v,B,hv,k,E',A',h1,h2⟩
 ·cases h1
@[simp] theorem ops_mv (x:Operand) (d:Option Nat) (l:List AOper) (E:Env) (A:St) (Q:Ex→Env→St→Prop):Ops D G0 fns X (⟨d,.mv x,none⟩::l) E A Q=contV D G0 fns X (some (ev E x)) d l E A Q:=by rw[ops_pure rfl (fun _ _=>rfl)];rfl
@[simp] theorem ops_pick (c a b:Operand) (d:Option Nat) (l:List AOper) (E:Env) (A:St) (Q:Ex→Env→St→Prop):Ops D G0 fns X (⟨d,.pick c a b,none⟩::l) E A Q=contV D G0 fns X (pickV (ev E c) (ev E a) (ev E b)) d l E A Q:=by
 rw[ops_pure rfl (fun _ _=>rfl)]
 congr 1
 show (match ev E c with|.bool t=>some (ev E (bif t then a else b))|_=>none)=_
 unfold pickV
 cases ev E c<;>try rfl
 rename_i t
 cases t<;>rfl
@[simp] theorem ops_bin (o:BinOp) (x y:Operand) (d:Option Nat) (l:List AOper) (E:Env) (A:St) (Q:Ex→Env→St→Prop):Ops D G0 fns X (⟨d,.bin o x y,none⟩::l) E A Q=contV D G0 fns X (binOf o (ev E x) (ev E y)) d l E A Q:=by rw[ops_pure rfl (fun _ _=>rfl)];rfl
@[simp] theorem ops_un (o:UnOp) (x:Operand) (d:Option Nat) (l:List AOper) (E:Env) (A:St) (Q:Ex→Env→St→Prop):Ops D G0 fns X (⟨d,.un o x,none⟩::l) E A Q=contV D G0 fns X (unOf o (ev E x)) d l E A Q:=by rw[ops_pure rfl (fun _ _=>rfl)];rfl
@[simp] theorem ops_conv (k:IntKind) (x:Operand) (d:Option Nat) (l:List AOper) (E:Env) (A:St) (Q:Ex→Env→St→Prop):Ops D G0 fns X (⟨d,.conv k x,none⟩::l) E A Q=contV D G0 fns X (convV k (ev E x)) d l E A Q:=by rw[ops_pure rfl (fun _ _=>rfl)];rfl
@[simp] theorem ops_extract (t:Operand) (i:Nat) (d:Option Nat) (l:List AOper) (E:Env) (A:St) (Q:Ex→Env→St→Prop):Ops D G0 fns X (⟨d,.extract t i,none⟩::l) E A Q=contV D G0 fns X (extractV i (ev E t)) d l E A Q:=by rw[ops_pure rfl (fun _ _=>rfl)];rfl
@[simp] theorem ops_mkIface (t:TypeId) (x:Operand) (d:Option Nat) (l:List AOper) (E:Env) (A:St) (Q:Ex→Env→St→Prop):Ops D G0 fns X (⟨d,.mkIface t x,none⟩::l) E A Q=contV D G0 fns X (mkIfaceV t (ev E x)) d l E A Q:=by rw[ops_pure rfl (fun _ _=>rfl)];rfl
@[simp] theorem ops_mkFunc (fn:Fn) (first captured:List Operand) (d:Option Nat) (l:List AOper) (E:Env) (A:St) (Q:Ex→Env→St→Prop):Ops D G0 fns X (⟨d,.mkFunc fn first captured,none⟩::l) E A Q=contV D G0 fns X (pureOf E (.mkFunc fn first captured)) d l E A Q:=ops_pure rfl (fun _ _=>rfl) d l E A Q
@[simp] theorem ops_nilCheck (x:Operand) (d:Option Nat) (l:List AOper) (E:Env) (A:St) (Q:Ex→Env→St→Prop):Ops D G0 fns X (⟨d,.nilCheck x,none⟩::l) E A Q=contV D G0 fns X (nilCheckV (ev E x)) d l E A Q:=by rw[ops_pure rfl (fun _ _=>rfl)];rfl
@[simp] theorem ops_fieldAddr (off:Nat) (x:Operand) (d:Option Nat) (l:List AOper) (E:Env) (A:St) (Q:Ex→Env→St→Prop):Ops D G0 fns X (⟨d,.fieldAddr off x,none⟩::l) E A Q=contV D G0 fns X (fieldAddrV off (ev E x)) d l E A Q:=by rw[ops_pure rfl (fun _ _=>rfl)];rfl
@[simp] theorem ops_field (off size:Nat) (agg:Bool) (x:Operand) (d:Option Nat) (l:List AOper) (E:Env) (A:St) (Q:Ex→Env→St→Prop):Ops D G0 fns X (⟨d,.field off size agg x,none⟩::l) E A Q=contV D G0 fns X (fieldV off size agg (ev E x)) d l E A Q:=by rw[ops_pure rfl (fun _ _=>rfl)];rfl
@[simp] theorem ops_atSlice (size:Nat) (x i:Operand) (d:Option Nat) (l:List AOper) (E:Env) (A:St) (Q:Ex→Env→St→Prop):Ops D G0 fns X (⟨d,.atSlice size x i,none⟩::l) E A Q=contV D G0 fns X (atSliceV size (ev E x) (ev E i)) d l E A Q:=by rw[ops_pure rfl (fun _ _=>rfl)];rfl
@[simp] theorem ops_atArray (n size:Nat) (x i:Operand) (d:Option Nat) (l:List AOper) (E:Env) (A:St) (Q:Ex→Env→St→Prop):Ops D G0 fns X (⟨d,.atArray n size x i,none⟩::l) E A Q=contV D G0 fns X (atArrayV n size (ev E x) (ev E i)) d l E A Q:=by rw[ops_pure rfl (fun _ _=>rfl)];rfl
@[simp] theorem ops_cutStr (x:Operand) (lo hi:Option Operand) (d:Option Nat) (l:List AOper) (E:Env) (A:St) (Q:Ex→Env→St→Prop):Ops D G0 fns X (⟨d,.cutStr x lo hi,none⟩::l) E A Q=contV D G0 fns X (cutStrV (ev E x) (evo E lo) (evo E hi)) d l E A Q:=by rw[ops_pure rfl (fun _ _=>rfl)];rfl
@[simp] theorem ops_cutSlice (size:Nat) (x:Operand) (lo hi mx:Option Operand) (d:Option Nat) (l:List AOper) (E:Env) (A:St) (Q:Ex→Env→St→Prop):Ops D G0 fns X (⟨d,.cutSlice size x lo hi mx,none⟩::l) E A Q=contL D G0 fns X (cutSliceOf size (ev E x) (evo E lo) (evo E hi) (evo E mx)) (lateCut size A (ev E x) (evo E lo) (evo E hi) (evo E mx)) d l E A Q:=by
 refine propext ⟨fun ⟨k,E',A',h1,h2⟩=>?_,fun h=>?_⟩
 ·simp only[runOps,wantedA,opOfL,opOf,AOp.cls,pureOf,lateOf] at h1
  unfold contL
  cases hc:cutSliceOf size (ev E x) (evo E lo) (evo E hi) (evo E mx) with
  | some v=>rw[hc] at h1;exact⟨k,E',A',h1,h2⟩
  | none=>
   rw[hc] at h1
   dsimp only at h1 ⊢
   cases hl:lateCut size A (ev E x) (evo E lo) (evo E hi) (evo E mx) with
   | some v=>rw[hl] at h1;exact⟨k,E',A',h1,h2⟩
   | none=>rw[hl] at h1;cases h1
 ·unfold contL at h
  split at h
  ·rename_i v hv
   exact WpO.op rfl (fun G=>by simp only[opOf,AOp.cls,pureOf,hv]) h
  ·rename_i hv
   split at h
   ·rename_i v hl
    obtain⟨k,E',A',h1,h2⟩:=h
    exact⟨k,E',A',by simp only[runOps,wantedA,opOfL,opOf,AOp.cls,pureOf,lateOf,hv,hl];exact h1,h2⟩
   ·exact h.elim
@[simp] theorem ops_cutArray (n size:Nat) (x:Operand) (lo hi mx:Option Operand) (d:Option Nat) (l:List AOper) (E:Env) (A:St) (Q:Ex→Env→St→Prop):Ops D G0 fns X (⟨d,.cutArray n size x lo hi mx,none⟩::l) E A Q=contV D G0 fns X (pureOf E (.cutArray n size x lo hi mx)) d l E A Q:=ops_pure rfl (fun _ _=>rfl) d l E A Q
@[simp] theorem ops_build (zero:List AV) (parts:List (Nat × Nat × Operand)) (d:Option Nat) (l:List AOper) (E:Env) (A:St) (Q:Ex→Env→St→Prop):Ops D G0 fns X (⟨d,.build zero parts,none⟩::l) E A Q=contV D G0 fns X (aggV (fillA zero (evParts E parts))) d l E A Q:=by rw[ops_pure rfl (fun _ _=>rfl)];rfl
@[simp] theorem ops_lenStr (x:Operand) (d:Option Nat) (l:List AOper) (E:Env) (A:St) (Q:Ex→Env→St→Prop):Ops D G0 fns X (⟨d,.lenStr x,none⟩::l) E A Q=contV D G0 fns X (lenStrV (ev E x)) d l E A Q:=by rw[ops_pure rfl (fun _ _=>rfl)];rfl
@[simp] theorem ops_len (x:Operand) (d:Option Nat) (l:List AOper) (E:Env) (A:St) (Q:Ex→Env→St→Prop):Ops D G0 fns X (⟨d,.len x,none⟩::l) E A Q=contV D G0 fns X (lenV (ev E x)) d l E A Q:=by rw[ops_pure rfl (fun _ _=>rfl)];rfl
@[simp] theorem ops_minmax (isMax:Bool) (xs:List Operand) (d:Option Nat) (l:List AOper) (E:Env) (A:St) (Q:Ex→Env→St→Prop):Ops D G0 fns X (⟨d,.minmax isMax xs,none⟩::l) E A Q=contV D G0 fns X (pureOf E (.minmax isMax xs)) d l E A Q:=ops_pure rfl (fun _ _=>rfl) d l E A Q
@[simp] theorem ops_box (x:Operand) (d:Option Nat) (l:List AOper) (E:Env) (A:St) (Q:Ex→Env→St→Prop):Ops D G0 fns X (⟨d,.box x,none⟩::l) E A Q=contN D G0 fns X (boxV (ev E x)) d l E A Q:=by rw[ops_new rfl];rfl
@[simp] theorem ops_alloc (zero:List AV) (d:Option Nat) (l:List AOper) (E:Env) (A:St) (Q:Ex→Env→St→Prop):Ops D G0 fns X (⟨d,.alloc zero,none⟩::l) E A Q=contN D G0 fns X (some (zero,1,.ptr)) d l E A Q:=by rw[ops_new rfl];rfl
@[simp] theorem ops_buildSlice (n size:Nat) (cells:List AV) (parts:List (Nat × Nat × Operand)) (d:Option Nat) (l:List AOper) (E:Env) (A:St) (Q:Ex→Env→St→Prop):Ops D G0 fns X (⟨d,.buildSlice n size cells parts,none⟩::l) E A Q=contN D G0 fns X (builtV n size (fillA cells (evParts E parts))) d l E A Q:=by rw[ops_new rfl];rfl
@[simp] theorem ops_makeSlice (size bytes:Nat) (zero:List AV) (ln cap:Operand) (d:Option Nat) (l:List AOper) (E:Env) (A:St) (Q:Ex→Env→St→Prop):Ops D G0 fns X (⟨d,.makeSlice size bytes zero ln cap,none⟩::l) E A Q=contN D G0 fns X (makeV size bytes zero (ev E ln) (ev E cap)) d l E A Q:=by rw[ops_new rfl];rfl
@[simp] theorem ops_eq (k:EqK) (neg:Bool) (x y:Operand) (d:Option Nat) (l:List AOper) (E:Env) (A:St) (Q:Ex→Env→St→Prop):Ops D G0 fns X (⟨d,.eq k neg x y,none⟩::l) E A Q=contV D G0 fns X (eqV A k neg (ev E x) (ev E y)) d l E A Q:=by rw[ops_read rfl];rfl
@[simp] theorem ops_load (n:Nat) (agg:Bool) (a:Operand) (d:Option Nat) (l:List AOper) (E:Env) (A:St) (Q:Ex→Env→St→Prop):Ops D G0 fns X (⟨d,.load n agg a,none⟩::l) E A Q=contV D G0 fns X (loadV A n agg (ev E a)) d l E A Q:=by rw[ops_read rfl];rfl
@[simp] theorem ops_textOf (x:Operand) (d:Option Nat) (l:List AOper) (E:Env) (A:St) (Q:Ex→Env→St→Prop):Ops D G0 fns X (⟨d,.textOf x,none⟩::l) E A Q=contV D G0 fns X (textV A (ev E x)) d l E A Q:=by rw[ops_read rfl];rfl
@[simp] theorem ops_lookup (kd:KK) (zero:AV) (ok:Bool) (mp k:Operand) (d:Option Nat) (l:List AOper) (E:Env) (A:St) (Q:Ex→Env→St→Prop):Ops D G0 fns X (⟨d,.lookup kd zero ok mp k,none⟩::l) E A Q=contV D G0 fns X (readOf E A (.lookup kd zero ok mp k)) d l E A Q:=ops_read rfl d l E A Q
@[simp] theorem ops_lenMap (mp:Operand) (d:Option Nat) (l:List AOper) (E:Env) (A:St) (Q:Ex→Env→St→Prop):Ops D G0 fns X (⟨d,.lenMap mp,none⟩::l) E A Q=contV D G0 fns X (readOf E A (.lenMap mp)) d l E A Q:=ops_read rfl d l E A Q
@[simp] theorem ops_mkMap  (d:Option Nat) (l:List AOper) (E:Env) (A:St) (Q:Ex→Env→St→Prop):Ops D G0 fns X (⟨d,.mkMap,none⟩::l) E A Q=contP D G0 fns X (effOf E A .mkMap) d l E Q:=ops_eff rfl d l E A Q
@[simp] theorem ops_store (n:Nat) (a x:Operand) (d:Option Nat) (l:List AOper) (E:Env) (A:St) (Q:Ex→Env→St→Prop):Ops D G0 fns X (⟨d,.store n a x,none⟩::l) E A Q=contP D G0 fns X (storeV A n (ev E a) (ev E x)) d l E Q:=by rw[ops_eff rfl];rfl
@[simp] theorem ops_append (str:Bool) (size bytes:Nat) (s x:Operand) (d:Option Nat) (l:List AOper) (E:Env) (A:St) (Q:Ex→Env→St→Prop):Ops D G0 fns X (⟨d,.append str size bytes s x,none⟩::l) E A Q=contP D G0 fns X (appendV A str size bytes (ev E s) (ev E x)) d l E Q:=by rw[ops_eff rfl];rfl
@[simp] theorem ops_mapDel (kd:KK) (mp k:Operand) (d:Option Nat) (l:List AOper) (E:Env) (A:St) (Q:Ex→Env→St→Prop):Ops D G0 fns X (⟨d,.mapDel kd mp k,none⟩::l) E A Q=contP D G0 fns X (effOf E A (.mapDel kd mp k)) d l E Q:=ops_eff rfl d l E A Q
@[simp] theorem ops_guard (t:Nat) (b:Bool) (op:AOp) (d:Option Nat) (l:List AOper) (E:Env) (A:St) (Q:Ex→Env→St→Prop) (ht:t<1000000):Ops D G0 fns X (⟨d,op,some (t,b)⟩::l) E A Q=contG D G0 fns X (Env.at E t) b ⟨d,op,some (t,b)⟩ l E A Q:=by
 have hw:wantedA E (some (t,b))=match Env.at E t with|.bool c=>some (c == b)|.tuple []=>some false|_=>none:=by
  unfold wantedA
  dsimp only
  rw[show Nat.blt t 1000000=true from by rw[Nat.blt_eq];exact ht]
  rfl
 unfold contG
 split
 ·rename_i c hc
  rw[hc] at hw
  dsimp only at hw
  by_cases hb:c=b
  ·rw[if_pos hb]
   subst hb
   refine propext ⟨fun ⟨k,E',A',h1,h2⟩=>⟨k,E',A',?_,h2⟩,fun ⟨k,E',A',h1,h2⟩=>⟨k,E',A',?_,h2⟩⟩
   ·simp only[runOps,hw,beq_self_eq_true] at h1
    simp only[runOps,wantedA]
    exact h1
   ·simp only[runOps,wantedA] at h1
    simp only[runOps,hw,beq_self_eq_true]
    exact h1
  ·rw[if_neg hb]
   have hb':(c == b)=false:=by simpa using hb
   rw[hb'] at hw
   refine propext ⟨fun ⟨k,E',A',h1,h2⟩=>⟨k,E',A',?_,h2⟩,fun ⟨k,E',A',h1,h2⟩=>⟨k,E',A',?_,h2⟩⟩
   ·simpa only[runOps,hw] using h1
   ·simpa only[runOps,hw] using h1
 ·rename_i hc
  rw[hc] at hw
  dsimp only at hw
  refine propext ⟨fun ⟨k,E',A',h1,h2⟩=>⟨k,E',A',?_,h2⟩,fun ⟨k,E',A',h1,h2⟩=>⟨k,E',A',?_,h2⟩⟩
  ·simpa only[runOps,hw] using h1
  ·simpa only[runOps,hw] using h1
 ·rename_i hno hno2
  have hw':wantedA E (some (t,b))=none:=by
   rw[hw]
   split
   ·rename_i c hc;exact (hno c hc).elim
   ·rename_i hc;exact (hno2 hc).elim
   ·rfl
  refine propext ⟨fun ⟨k,E',A',h1,h2⟩=>?_,fun h=>h.elim⟩
  simp only[runOps,hw'] at h1
  cases h1

@[simp] theorem wp_skip (E:Env) (A:St) (Q:Ex→Env→St→Prop):Wp D G0 fns X .skip E A Q=Q .normal E A:=propext ⟨fun ⟨k,ex,E',A',h1,h2⟩=>by cases h1;exact h2,Wp.skip⟩
@[simp] theorem wp_exit (id:Nat) (E:Env) (A:St) (Q:Ex→Env→St→Prop):Wp D G0 fns X (.exit id) E A Q=Q (.exit id) E A:=propext ⟨fun ⟨k,ex,E',A',h1,h2⟩=>by cases h1;exact h2,Wp.exit⟩
@[simp] theorem wp_ret (E:Env) (A:St) (Q:Ex→Env→St→Prop):Wp D G0 fns X .ret E A Q=Q .ret E A:=propext ⟨fun ⟨k,ex,E',A',h1,h2⟩=>by cases h1;exact h2,Wp.ret⟩
@[simp] theorem wp_region (l:List AOper) (E:Env) (A:St) (Q:Ex→Env→St→Prop):Wp D G0 fns X (.region l) E A Q=Ops D G0 fns X l E A Q:=by
 refine propext ⟨fun ⟨k,ex,E',A',h1,h2⟩=>?_,Wp.region⟩
 simp only[interp] at h1
 split at h1
 ·rename_i E1 A1 hr;cases h1;exact⟨k,E',A',hr,h2⟩
 ·cases h1
@[simp] theorem wp_seq (a b:ACode) (E:Env) (A:St) (Q:Ex→Env→St→Prop):Wp D G0 fns X (.seq a b) E A Q=Wp D G0 fns X a E A (seqK D G0 fns X b Q):=by
 refine propext ⟨fun ⟨k,ex,E',A',h1,h2⟩=>?_,fun h=>Wp.seq (h.mono fun ex E A h=>by cases ex<;>exact h)⟩
 simp only[interp] at h1
 cases ha:interp D (calls D G0 fns X k) k a E A with
 | none=>rw[ha] at h1;cases h1
 | some x=>
  rw[ha] at h1
  obtain⟨ex1,E1,A1⟩:=x
  cases ex1 with
  | normal=>exact⟨k,.normal,E1,A1,ha,⟨k,ex,E',A',h1,h2⟩⟩
  | exit i=>cases h1;exact⟨k,_,_,_,ha,h2⟩
  | ret=>cases h1;exact⟨k,_,_,_,ha,h2⟩
@[simp] theorem wp_cond (c:Operand) (x y:ACode) (E:Env) (A:St) (Q:Ex→Env→St→Prop):Wp D G0 fns X (.cond c x y) E A Q=contC D G0 fns X (ev E c) x y E A Q:=by
 refine propext ⟨fun ⟨k,ex,E',A',h1,h2⟩=>?_,fun h=>?_⟩
 ·simp only[interp] at h1
  split at h1
  ·rename_i hc;rw[hc];exact⟨k,_,_,_,h1,h2⟩
  ·rename_i hc;rw[hc];exact⟨k,_,_,_,h1,h2⟩
  ·cases h1
 ·unfold contC at h
  split at h
  ·rename_i hc;exact .yes hc h
  ·rename_i hc;exact .no hc h
  ·exact h.elim
@[simp] theorem wp_block (id:Nat) (c:ACode) (E:Env) (A:St) (Q:Ex→Env→St→Prop):Wp D G0 fns X (.block id c) E A Q=Wp D G0 fns X c E A (blkK id Q):=by
 refine propext ⟨fun ⟨k,ex,E',A',h1,h2⟩=>?_,fun h=>Wp.block (h.mono fun ex E A h=>by cases ex<;>exact h)⟩
 simp only[interp] at h1
 cases ha:interp D (calls D G0 fns X k) k c E A with
 | none=>rw[ha] at h1;cases h1
 | some x=>
  rw[ha] at h1
  obtain⟨ex1,E1,A1⟩:=x
  cases ex1 with
  | normal=>cases h1;exact⟨k,_,_,_,ha,h2⟩
  | ret=>cases h1;exact⟨k,_,_,_,ha,h2⟩
  | exit i=>
   refine⟨k,_,_,_,ha,?_⟩
   dsimp only at h1
   show (if i=id then _ else _)
   split at h1
   ·rename_i hi;rw[if_pos hi];cases h1;exact h2
   ·rename_i hi;rw[if_neg hi];cases h1;exact h2
theorem Ev.fnK {f:FuncId} {fn:AFn} (hf:fns f=some fn) {args:List AV} {A:St} {Q:AV→St→Prop} (hn:args.length≤fn.n∧fn.n≤1000000)
  (h:Wp D G0 fns X fn.body (setArgs 0 args G0) A (fnK fn.res Q)):Ev D G0 fns X f args A Q:=
 Ev.fn hf hn (h.mono fun ex E A h=>by cases ex<;>exact h)
end

def loopK (I:Nat→Env→St→Prop) (d:Nat) (Q:Ex→Env→St→Prop) (ex:Ex) (E:Env) (A:St):Prop:=
 match ex with
 | .normal=>∃ d',d'<d∧I d' E A
 | ex=>Q ex E A
@[simp] theorem loopK_normal (I:Nat→Env→St→Prop) (d:Nat) (Q:Ex→Env→St→Prop) (E:Env) (A:St):loopK I d Q .normal E A=∃ d',d'<d∧I d' E A:=rfl
@[simp] theorem loopK_exit (I:Nat→Env→St→Prop) (d i:Nat) (Q:Ex→Env→St→Prop) (E:Env) (A:St):loopK I d Q (.exit i) E A=Q (.exit i) E A:=rfl
@[simp] theorem loopK_ret (I:Nat→Env→St→Prop) (d:Nat) (Q:Ex→Env→St→Prop) (E:Env) (A:St):loopK I d Q .ret E A=Q .ret E A:=rfl
theorem Wp.loopK {D:Disp} {G0:Env} {fns:Nat→Option AFn} {X:Calls'} {c:ACode} {Q:Ex→Env→St→Prop} (I:Nat→Env→St→Prop) (d:Nat) {E:Env} {A:St} (h:I d E A) (round:∀ d E A,I d E A→Wp D G0 fns X c E A (AM.loopK I d Q)):Wp D G0 fns X (.loop c) E A Q:=
 Wp.loop I (fun d E A h=>(round d E A h).mono fun ex E A h=>by cases ex<;>exact h) d E A h

section
variable (k:IntKind) (x y:Int)
@[simp] theorem qbq:binOf .add (.int k x) (.int k y)=some (.int k (k.wrap (x+y))):=by simp[binOf,isShift,binInt]
@[simp] theorem qsq:binOf .sub (.int k x) (.int k y)=some (.int k (k.wrap (x - y))):=by simp[binOf,isShift,binInt]
@[simp] theorem bin_mul:binOf .mul (.int k x) (.int k y)=some (.int k (k.wrap (x*y))):=by simp[binOf,isShift,binInt]
@[simp] theorem qqq:binOf .eql (.int k x) (.int k y)=some (.bool (decide (x=y))):=by simp[binOf,isShift,binInt];rfl
@[simp] theorem bin_neq:binOf .neq (.int k x) (.int k y)=some (.bool (decide (x≠y))):=by simp[binOf,isShift,binInt,bne];rfl
@[simp] theorem qjq:binOf .lss (.int k x) (.int k y)=some (.bool (decide (x<y))):=by simp[binOf,isShift,binInt]
@[simp] theorem bin_leq:binOf .leq (.int k x) (.int k y)=some (.bool (decide (x≤y))):=by simp[binOf,isShift,binInt]
@[simp] theorem qfq:binOf .gtr (.int k x) (.int k y)=some (.bool (decide (y<x))):=by simp[binOf,isShift,binInt]
@[simp] theorem bin_geq:binOf .geq (.int k x) (.int k y)=some (.bool (decide (y≤x))):=by simp[binOf,isShift,binInt]
@[simp] theorem bin_str_eql (a b:List UInt8):binOf .eql (.str a) (.str b)=some (.bool (decide (a=b))):=by simp[binOf,binStr];cases h:a == b<;>simp_all
end

def frameOf (W:World):Fr:=⟨fun cb=>W.heap[cb]?,W.os,W.output⟩
def muNone (P:Program) (t:List (Nat × (Array Value→Prop)):=[]):Mu:=⟨fun _ _=>none,fun _=>none,P,t⟩
def TabOk (t:List (Nat × (Array Value→Prop))) (h:Nat→Option Obj):Prop:=∀ p,p∈t→∃ c e fz,h p.1=some (.cells c e fz)∧p.2 c
theorem tabOk_nil (h:Nat→Option Obj):TabOk [] h:=fun _ hp=>by cases hp
def stNone:St:=⟨.nil,0⟩

structure Inp (W:World) (m:Mu) (A:St):Prop where
 rel:Rel (frameOf W) m A W
 still:∀ f,¬A.Rw f
 far:∀ f,A.next≤f→A.get f=none
 gfar:∀ k,A.next≤k→m.gho k=none

structure St.Ext (A B:St):Prop where
 next:A.next≤B.next
 get:∀ f,f<A.next→B.get f=A.get f
theorem St.Ext.refl (A:St):A.Ext A:=⟨Nat.le_refl _,fun _ _=>rfl⟩
theorem St.Ext.trans {A B C:St} (h:A.Ext B) (k:B.Ext C):A.Ext C:=⟨Nat.le_trans h.next k.next,fun f hf=>(k.get f (Nat.lt_of_lt_of_le hf h.next)).trans (h.get f hf)⟩

theorem inp_none (P:Program) (W:World) {t:List (Nat × (Array Value→Prop))} (ht:TabOk t (fun g=>W.heap[g]?):=by exact tabOk_nil _):Inp W (muNone P t) stNone:=
 ⟨⟨fun f v l h=>(by cases h),fun f b h=>(by cases h),fun cb o h=>h,⟨rfl,rfl⟩,fun f v l g u k h=>(by cases h),fun f v l h=>(by cases h),fun f v l u k h=>(by cases h),fun f l h=>(by cases h),ht⟩,
  fun f ⟨b,h,_⟩=>(by cases h),fun f _=>rfl,fun k _=>rfl⟩

section
variable {W:World} {m:Mu} {A:St}

theorem Inp.push (I:Inp W m A) {cs:List AV} {ys:List Value} (hys:cvos m cs=some ys) {cb co sz cap:Nat} (hcb:cb<W.heap.size) (hcell:∀ i y,ys[i]?=some y→W.cell? ⟨cb,co+i,none⟩=some y) :
  m.le (m.add A.next 0 ⟨cb,co,0,cap,sz⟩)∧Inp W (m.add A.next 0 ⟨cb,co,0,cap,sz⟩) (A.push (.cells cs [⟨0,0,cs.length,sz⟩] 1 true)):=by
 have hnone:∀ v,m A.next v=none:=fun v=>by
  cases h:m A.next v with
  | none=>rfl
  | some l=>have:=(I.rel.dom _ _ _ h).1;omega
 have hle:=Mu.le_add (m:=m) ⟨cb,co,0,cap,sz⟩ (hnone 0)
 have hget:∀ f v,f≠A.next→(m.add A.next 0 ⟨cb,co,0,cap,sz⟩) f v=m f v:=fun f v h=>by
  show (if f=A.next∧v=0 then _ else _)=_
  rw[if_neg (fun c=>h c.1)]
 have hnew:∀ v,(m.add A.next 0 ⟨cb,co,0,cap,sz⟩) A.next v=if v=0 then some ⟨cb,co,0,cap,sz⟩ else none:=fun v=>by
  show (if A.next=A.next∧v=0 then _ else _)=_
  by_cases h:v=0
  ·rw[if_pos ⟨rfl,h⟩,if_pos h]
  ·rw[if_neg (fun c=>h c.2),if_neg h];exact hnone v
 have hnoRw:∀ f,¬(A.push (.cells cs [⟨0,0,cs.length,sz⟩] 1 true)).Rw f:=by
  rintro f ⟨b,hb,hr⟩
  rw[St.get_push] at hb
  split at hb
  ·cases hb;cases hr
  ·exact I.still f ⟨b,hb,hr⟩
 refine⟨hle,⟨⟨?_,?_,I.rel.keep,I.rel.rest,?_,?_,?_,fun f l _ hr=>absurd hr (hnoRw f),I.rel.frm⟩,hnoRw,?_,fun k hk=>I.gfar k (Nat.le_of_succ_le hk)⟩⟩
 ·intro f v l h
  by_cases hf:f=A.next
  ·subst hf
   rw[hnew] at h
   split at h
   ·cases h;exact⟨Nat.lt_succ_self _,hcb⟩
   ·cases h
  ·rw[hget f v hf] at h
   exact⟨Nat.lt_succ_of_lt (I.rel.dom f v l h).1,(I.rel.dom f v l h).2⟩
 ·intro f b h
  rw[St.get_push] at h
  split at h
  ·rename_i hf
   subst hf
   cases h
   refine⟨fun x hx=>?_,fun v hv=>?_⟩
   ·simp only[List.mem_singleton] at hx
    subst hx
    refine⟨⟨cb,co,0,cap,sz⟩,⟨by rw[hnew];rfl,rfl,rfl,Nat.le_refl _,?_,fun h=>by cases h⟩⟩
    intro i a _ hi ha
    obtain⟨y,hy,hj⟩:=cvos_get hys ha
    exact⟨y,quq hle _ _ hy,by simpa using hcell i y hj⟩
   ·rw[hnew,if_neg (by omega)]
  ·rename_i hf
   have H:=I.rel.got f b h
   cases b with
   | cells cs vers nv ro=>
    refine⟨fun x hx=>?_,fun v hv=>?_⟩
    ·obtain⟨l,c⟩:=H.1 x hx
     exact⟨l,⟨hle.loc _ _ _ c.mu,c.lo,c.sz,c.hi,fun i a h1 h2 h3=>(let ⟨y,y1,y2⟩:=c.cell i a h1 h2 h3;⟨y,quq hle _ _ y1,y2⟩),c.rw⟩⟩
    ·rw[hget f v hf];exact H.2 v hv
   | map es cl=>
    obtain⟨l,es',h1,h2,h3,h4⟩:=H
    exact⟨l,es',hle.loc _ _ _ h1,h2,h3,h4.mono hle⟩
   | iter io=>
    obtain⟨l,ob,h1,h2,h3,h4⟩:=H
    exact⟨l,ob,⟨hle.loc _ _ _ h1.1,h1.2⟩,h2,h3,h4.mono hle⟩
 ·intro f v l g u k _ _ _ hr
  exact absurd hr (hnoRw f)
 ·intro f v l _ hr
  exact absurd hr (hnoRw f)
 ·intro f v l u k h1 h2
  by_cases hf:f=A.next
  ·subst hf
   rw[hnew] at h1 h2
   split at h1
   ·split at h2
    ·cases h1;cases h2;intro _;rfl
    ·cases h2
   ·cases h1
  ·rw[hget f _ hf] at h1 h2
   exact I.rel.same f v l u k h1 h2
 ·intro f hf
  have hf':A.next+1≤f:=hf
  rw[St.get_push,if_neg (by omega)]
  exact I.far f (by omega)

theorem ext_push (A:St) (b:Blk):A.Ext (A.push b):=⟨Nat.le_succ _,fun f hf=>by rw[St.get_push,if_neg (by omega)]⟩

def Mu.addG (m:Mu) (k:Nat) (a:Addr):Mu:=⟨m.loc,fun j=>if j=k then some a else m.gho j,m.pg,m.tab⟩
theorem Inp.ghost (I:Inp W m A) (a:Addr):m.le (m.addG A.next a)∧Inp W (m.addG A.next a) (A.push (.cells [] [] 0 true)):=by
 have hnone:∀ v,m A.next v=none:=fun v=>by
  cases h:m A.next v with
  | none=>rfl
  | some l=>have:=(I.rel.dom _ _ _ h).1;omega
 have hle:m.le (m.addG A.next a):=⟨fun _ _ _ h=>h,fun k x h=>by
  show (if k=A.next then some a else m.gho k)=some x
  rw[if_neg (fun c=>by rw[c,I.gfar _ (Nat.le_refl _)] at h;cases h)]
  exact h,rfl,rfl⟩
 have hnoRw:∀ f,¬(A.push (.cells [] [] 0 true)).Rw f:=by
  rintro f ⟨b,hb,hr⟩
  rw[St.get_push] at hb
  split at hb
  ·cases hb;cases hr
  ·exact I.still f ⟨b,hb,hr⟩
 refine⟨hle,⟨⟨fun f v l h=>⟨Nat.lt_succ_of_lt (I.rel.dom f v l h).1,(I.rel.dom f v l h).2⟩,?_,I.rel.keep,I.rel.rest,fun f v l g u k _ _ _ hr=>absurd hr (hnoRw f),fun f v l _ hr=>absurd hr (hnoRw f),I.rel.same,fun f l _ hr=>absurd hr (hnoRw f),I.rel.frm⟩,hnoRw,?_,?_⟩⟩
 ·intro f b h
  rw[St.get_push] at h
  split at h
  ·rename_i hf
   subst hf
   cases h
   exact⟨fun x hx=>(by cases hx),fun v _=>hnone v⟩
  ·rename_i hf
   have H:=I.rel.got f b h
   cases b with
   | cells cs vers nv ro=>
    refine⟨fun x hx=>?_,H.2⟩
    obtain⟨l,c⟩:=H.1 x hx
    exact⟨l,⟨c.mu,c.lo,c.sz,c.hi,fun i a h1 h2 h3=>(let ⟨y,y1,y2⟩:=c.cell i a h1 h2 h3;⟨y,quq hle _ _ y1,y2⟩),c.rw⟩⟩
   | map es cl=>
    obtain⟨l,es',h1,h2,h3,h4⟩:=H
    exact⟨l,es',h1,h2,h3,h4.mono hle⟩
   | iter io=>
    obtain⟨l,ob,h1,h2,h3,h4⟩:=H
    exact⟨l,ob,h1,h2,h3,h4.mono hle⟩
 ·intro f hf
  have hf':A.next+1≤f:=hf
  rw[St.get_push,if_neg (by omega)]
  exact I.far f (by omega)
 ·intro k hk
  have hk':A.next+1≤k:=hk
  show (if k=A.next then some a else m.gho k)=none
  rw[if_neg (by omega)]
  exact I.gfar k (by omega)
end

section
variable {H:Type}

def rdAll (R:TypeId→List AV→DataW H→Prop):List TypeId→List AV→List (DataW H)→Prop
 | [],l,ds=>l=[]∧ds=[]
 | t::ts,l,ds=>∃ l1 l2 d ds',l=l1++l2∧ds=d::ds'∧R t l1 d∧rdAll R ts l2 ds'

def ARd (P:Program) (A:St):Nat→TypeId→List AV→DataW H→Prop
 | 0,_,_,_=>False
 | n+1,t,l,d=>match P.underlying t with
  | some .bool=>∃ b,l=[.bool b]∧d=.lit (.bool b)
  | some (.int k)=>∃ i,l=[.int k i]∧(Lit.int k i).wf=true∧d=.lit (.int k i)
  | some .string=>∃ s,l=[.str s]∧s.length≤maxLen∧d=.lit (.string s)
  | some (.slice e)=>(l=[.slice none 0 0 0 0]∧d=.nil)∨(∃ k,l=[.slice none k 0 0 1]∧d=.slice [] []) ∨
   ∃ f len cap cs ds sp,l=[.slice (some (f,0,0)) 0 len cap 0]∧f<A.next∧0<cap∧cap≤maxLen∧A.get f=some (.cells cs [⟨0,0,cs.length,P.cellsOf e⟩] 1 true) ∧
    d=.slice ds sp∧ds.length=len∧(ds++sp).length=cap∧cs.length=cap*P.cellsOf e∧rdAll (ARd P A n) (List.replicate cap e) cs (ds++sp)
  | some (.struct fs)=>∃ ds,d=.agg ds∧rdAll (ARd P A n) (fs.toList.map (·.type)) l ds
  | _=>False

theorem rdAll.mono {R R':TypeId→List AV→DataW H→Prop} (h:∀ t l d,R t l d→R' t l d):∀ {ts:List TypeId} {l:List AV} {ds:List (DataW H)},rdAll R ts l ds→rdAll R' ts l ds
 | [],_,_,e=>e
 | t::ts,_,_,⟨l1,l2,d,ds',h1,h2,h3,h4⟩=>⟨l1,l2,d,ds',h1,h2,h _ _ _ h3,h4.mono h⟩

theorem ARd.ext {P:Program} {A B:St} (h:A.Ext B):∀ {n:Nat} {t:TypeId} {l:List AV} {d:DataW H},ARd P A n t l d→ARd P B n t l d
 | 0,_,_,_,e=>e
 | n+1,t,l,d,e=>by
  unfold ARd at *
  split at e
  ·exact e
  ·exact e
  ·exact e
  ·rcases e with e|e|⟨f,len,cap,cs,ds,sp,h1,h2,h3,h4,h5,h6,h7,h8,h9,h10⟩
   ·exact .inl e
   ·exact .inr (.inl e)
   ·exact .inr (.inr ⟨f,len,cap,cs,ds,sp,h1,Nat.lt_of_lt_of_le h2 h.next,h3,h4,(h.get f h2).trans h5,h6,h7,h8,h9,h10.mono fun _ _ _=>ARd.ext h⟩)
  ·obtain⟨ds,h1,h2⟩:=e
   exact⟨ds,h1,h2.mono fun _ _ _=>ARd.ext h⟩
  ·exact e
end

section
variable {H:Type} {enc:TypeId × Value→H} {P:Program} {W:World}

structure Imp (W:World) (m:Mu) (A:St) (m':Mu) (A':St):Prop where
 le:m.le m'
 ext:A.Ext A'
 inp:Inp W m' A'

def trodAt (enc:TypeId × Value→H) (P:Program) (W:World) (n:Nat):List TypeId→List (List Value)→List (DataW H)→Prop
 | [],[],[]=>True
 | t::ts,c::cs,d::ds=>(∃ p,DataW.trod enc P W 0 (fun _=>true) true n t c=some (d,p))∧trodAt enc P W n ts cs ds
 | _,_,_=>False

def argOk (P:Program):Nat→TypeId→Bool
 | 0,_=>false
 | k+1,t=>match P.underlying t with
  | some .bool|some (.int _)|some .string=>true
  | some (.slice e)=>decide (0<P.cellsOf e)&&argOk P k e
  | some (.struct fs)=>fs.toList.all (fun f=>argOk P k f.type)&&P.cellsOf t == (fs.toList.map fun f=>P.cellsOf f.type).sum &&
   (List.range fs.toList.length).all fun j=>match fs.toList[j]? with|some f=>f.offset == ((fs.toList.take j).map fun f=>P.cellsOf f.type).sum|none=>true
  | _=>false

theorem imp_all' (k n:Nat) (one:∀ t,argOk P k t=true→∀ cs d p,DataW.trod enc P W 0 (fun _=>true) true n t cs=some (d,p)→∀ m A,Inp W m A→∃ m' A' l,Imp W m A m' A'∧cvos m' l=some cs∧ARd P A' n t l d) :
  ∀ (ts:List TypeId) (css:List (List Value)) (ds:List (DataW H)),(∀ t∈ts,argOk P k t=true)→trodAt enc P W n ts css ds→∀ m A,Inp W m A→∃ m' A' l,Imp W m A m' A'∧cvos m' l=some css.flatten∧rdAll (ARd P A' n) ts l ds
 | [],[],[],_,_,m,A,I=>⟨m,A,[],⟨Mu.le_refl m,St.Ext.refl A,I⟩,rfl,rfl,rfl⟩
 | t::ts,c::cs,d::ds,ha,⟨⟨p,h⟩,hs⟩,m,A,I=>by
  obtain⟨m1,A1,l1,i1,c1,r1⟩:=one t (ha t (by simp)) c d p h m A I
  obtain⟨m2,A2,l2,i2,c2,r2⟩:=imp_all' k n one ts cs ds (fun t ht=>ha t (by simp[ht])) hs m1 A1 i1.inp
  exact⟨m2,A2,l1++l2,⟨Mu.le_trans i1.le i2.le,i1.ext.trans i2.ext,i2.inp⟩,by simpa using cvos_append (cvos_mono i2.le _ _ c1) c2,l1,l2,d,ds,rfl,rfl,r1.ext i2.ext,r2⟩
 | [],_::_,_,_,h,_,_,_=>h.elim
 | [],[],_::_,_,h,_,_,_=>h.elim
 | _::_,[],_,_,h,_,_,_=>h.elim
 | _::_,_::_,[],_,h,_,_,_=>h.elim

def cutBy:List Nat→List Value→List (List Value)
 | [],_=>[]
 | n::ns,cs=>cs.take n::cutBy ns (cs.drop n)
theorem cutBy_flatten:∀ (ns:List Nat) (cs:List Value),cs.length=ns.sum→(cutBy ns cs).flatten=cs
 | [],cs,h=>by simp at h;simp[cutBy,h]
 | n::ns,cs,h=>by
  simp only[List.sum_cons] at h
  simp only[cutBy,List.flatten_cons]
  rw[cutBy_flatten ns (cs.drop n) (by simp;omega),List.take_append_drop]

theorem trodAt_fields {n:Nat} {cs:List Value}:∀ (fs:List Field) (off:Nat) (xs:List (DataW H × List MemPlace)),(∀ (i:Nat) (f:Field),fs[i]?=some f→DataW.trod enc P W 0 (fun _=>true) true n f.type ((cs.drop f.offset).take (P.cellsOf f.type))=xs[i]?)→xs.length=fs.length →
  (∀ (i:Nat) (f:Field),fs[i]?=some f→f.offset=off+((fs.take i).map fun f=>P.cellsOf f.type).sum) →
  trodAt enc P W n (fs.map (·.type)) (cutBy (fs.map fun f=>P.cellsOf f.type) (cs.drop off)) (xs.map (·.1))
 | [],off,xs,h,hl,ho=>by
  have:xs=[]:=by simpa using hl
  subst this
  trivial
 | f::fs,off,[],h,hl,ho=>by simp at hl
 | f::fs,off,x::xs,h,hl,ho=>by
  have h0:=h 0 f rfl
  have o0:=ho 0 f rfl
  simp at o0
  refine⟨⟨x.2,?_⟩,?_⟩
  ·rw[o0] at h0;simpa using h0
  ·show trodAt enc P W n (fs.map (·.type)) (cutBy (fs.map fun f=>P.cellsOf f.type) ((cs.drop off).drop (P.cellsOf f.type))) (xs.map (·.1))
   rw[List.drop_drop]
   refine trodAt_fields fs (off+P.cellsOf f.type) xs (fun i g hg=>?_) (by simpa using hl) fun i g hg=>?_
   ·have:=h (i+1) g (by simpa using hg)
    simpa using this
   ·have:=ho (i+1) g (by simpa using hg)
    simp only[List.take_succ_cons,List.map_cons,List.sum_cons] at this
    omega

theorem trodAt_elems {n:Nat} {e:TypeId} {g:Nat→Option (List Value)}:∀ (xs:List (DataW H × List MemPlace)) (k:Nat),(∀ i,i<xs.length→(g (k+i)).bind (DataW.trod enc P W 0 (fun _=>true) true n e)=xs[i]?) →
  ∃ css:List (List Value),css.length=xs.length∧(∀ i,i<xs.length→g (k+i)=css[i]?)∧trodAt enc P W n (List.replicate xs.length e) css (xs.map (·.1))
 | [],k,h=>⟨[],rfl,fun i hi=>by simp at hi,trivial⟩
 | x::xs,k,h=>by
  have h0:=h 0 (by simp)
  simp only[Nat.add_zero,List.getElem?_cons_zero] at h0
  obtain⟨c,hc,hx⟩:=Option.bind_eq_some_iff.1 h0
  obtain⟨css,e1,e2,e3⟩:=trodAt_elems xs (k+1) (fun i hi=>by
   have:=h (i+1) (by simp;omega)
   rw[show k+1+i=k+(i+1) by omega]
   simpa using this)
  refine⟨c::css,by simp[e1],fun i hi=>?_,?_⟩
  ·cases i with
   | zero=>simpa using hc
   | succ i=>
    have:=e2 i (by simpa using hi)
    rw[show k+(i+1)=k+1+i by omega]
    simpa using this
  ·exact⟨⟨x.2,hx⟩,e3⟩

theorem flatten_get {α:Type} {sz:Nat} (hsz:0<sz):∀ (l:List (List α)),(∀ x∈l,x.length=sz)→∀ i,l.flatten[i]?=(l[i / sz]?).bind (·[i % sz]?)
 | [],_,i=>by simp
 | x::l,h,i=>by
  have hx:=h x (by simp)
  simp only[List.flatten_cons]
  by_cases hi:i<sz
  ·rw[List.getElem?_append_left (by omega),Nat.div_eq_of_lt hi,Nat.mod_eq_of_lt hi]
   simp
  ·rw[List.getElem?_append_right (by omega),flatten_get hsz l (fun y hy=>h y (by simp[hy])),hx]
   have e1:i / sz=(i - sz) / sz+1:=by
    have:=Nat.add_div_right (i - sz) hsz
    rw[Nat.sub_add_cancel (by omega)] at this
    exact this
   have e2:i % sz=(i - sz) % sz:=by rw[Nat.mod_eq_sub_mod (by omega)]
   rw[e1,e2]
   simp

theorem imp_one:∀ (k n:Nat) (t:TypeId),argOk P k t=true→∀ (cs:List Value) (d:DataW H) (p:List MemPlace),DataW.trod enc P W 0 (fun _=>true) true n t cs=some (d,p)→∀ m A,Inp W m A→∃ m' A' l,Imp W m A m' A'∧cvos m' l=some cs∧ARd P A' n t l d
 | 0,_,_,h,_,_,_,_,_,_,_=>by cases h
 | k+1,n,t,h,cs,d,p,ht,m,A,I=>by
  have stay:Imp W m A m A:=⟨Mu.le_refl m,St.Ext.refl A,I⟩
  cases n with
  | zero=>simp[DataW.trod] at ht
  | succ n=>
  unfold argOk at h
  split at h
  ·rename_i hu
   obtain⟨b,rfl,hx⟩:=DataW.trod_bool hu ht
   cases hx
   exact⟨m,A,[.bool b],stay,rfl,by unfold ARd;rw[hu];exact⟨b,rfl,rfl⟩⟩
  ·rename_i kd hu
   obtain⟨i,rfl,hx,hw⟩:=DataW.trod_int hu ht
   cases hx
   exact⟨m,A,[.int kd i],stay,rfl,by unfold ARd;rw[hu];exact⟨i,rfl,hw,rfl⟩⟩
  ·rename_i hu
   obtain⟨s,rfl,hx,hs⟩:=DataW.trod_string hu ht
   cases hx
   exact⟨m,A,[.str s.data.toList],stay,rfl,by unfold ARd;rw[hu];exact⟨s.data.toList,rfl,hs,rfl⟩⟩
  ·rename_i e hu
   simp only[Bool.and_eq_true,decide_eq_true_eq] at h
   obtain⟨hsz,hk⟩:=h
   rcases DataW.trod_slice hu ht with ⟨rfl,hx⟩|⟨a,len,cap,elems,rest,n',hn,rfl,hx,_,hl,hm,hlen,hel,hsp,_⟩
   ·cases hx
    exact⟨m,A,[.slice none 0 0 0 0],stay,rfl,by unfold ARd;rw[hu];exact .inl ⟨rfl,rfl⟩⟩
   ·cases hn
    cases hx
    obtain⟨hrl,hrest⟩:=hsp rfl
    by_cases hc0:cap=0
    ·subst hc0
     have hl0:len=0:=by omega
     subst hl0
     have e1:elems=[]:=by simpa using hlen
     have e2:rest=[]:=by simpa using hrl
     subst e1;subst e2
     obtain⟨hle,I'⟩:=I.ghost a
     refine⟨_,_,[.slice none A.next 0 0 1],⟨hle,ext_push _ _,I'⟩,?_,by unfold ARd;rw[hu];exact .inr (.inl ⟨A.next,rfl,rfl⟩)⟩
     have hg:(m.addG A.next a).gho A.next=some a:=by show (if A.next=A.next then _ else _)=_;rw[if_pos rfl]
     simp[cvos,cvo,hg]
    ·have hall:∀ i,i<(elems++rest).length→((fun i=>W.cells? 0 (a.add (i*P.cellsOf e)) (P.cellsOf e)) (0+i)).bind (DataW.trod enc P W 0 (fun _=>true) true n e)=(elems++rest)[i]?:=by
      intro i hi
      simp only[Nat.zero_add]
      by_cases hi':i<len
      ·rw[hel i hi',List.getElem?_append_left (by omega)]
      ·rw[List.length_append,hlen,hrl] at hi
       have:=hrest (i - len) (by omega)
       rw[show len+(i - len)=i by omega] at this
       rw[this,List.getElem?_append_right (by omega),hlen]
     obtain⟨css,c1,c2,c3⟩:=trodAt_elems (g:=fun i=>W.cells? 0 (a.add (i*P.cellsOf e)) (P.cellsOf e)) (elems++rest) 0 hall
     have hcap:(elems++rest).length=cap:=by rw[List.length_append,hlen,hrl];omega
     obtain⟨m1,A1,l,i1,v1,r1⟩:=imp_all' k n (imp_one k n) _ css _ (by
      intro t ht
      rw[List.mem_replicate] at ht
      rw[ht.2];exact hk) c3 m A I
     have hcell:∀ i c,css[i]?=some c→c.length=P.cellsOf e∧∀ j,j<P.cellsOf e→W.cell? ((a.add (i*P.cellsOf e)).add j)=c[j]?:=by
      intro i c hc
      have hi:i<(elems++rest).length:=by
       have:=(List.getElem?_eq_some_iff.1 hc).1
       omega
      have:=c2 i hi
      simp only[Nat.zero_add] at this
      rw[hc] at this
      obtain⟨_,h1,h2⟩:=World.cells?_some this
      exact⟨h1,h2⟩
     have hlens:∀ x∈css,x.length=P.cellsOf e:=fun x hx=>by
      obtain⟨i,hi⟩:=List.mem_iff_getElem?.1 hx
      exact (hcell i x hi).1
     have hfl:css.flatten.length=cap*P.cellsOf e:=by
      rw[List.length_flatten,show css.map List.length=List.replicate css.length (P.cellsOf e) from List.eq_replicate_iff.2 ⟨by simp,fun b hb=>by
       obtain⟨x,hx,rfl⟩:=List.mem_map.1 hb
       exact hlens x hx⟩]
      simp[c1,hcap,hrl,hlen]
     have hcells:∀ i y,css.flatten[i]?=some y→W.cell? ((a.add (i / P.cellsOf e*P.cellsOf e)).add (i % P.cellsOf e))=some y:=by
      intro i y hy
      rw[flatten_get hsz css hlens i] at hy
      obtain⟨c,hc,hj⟩:=Option.bind_eq_some_iff.1 hy
      rw[(hcell _ c hc).2 _ (Nat.mod_lt _ hsz),hj]
     have h0:∃ y,css.flatten[0]?=some y:=by
      have:0<css.flatten.length:=by rw[hfl];exact Nat.mul_pos (by omega) hsz
      exact⟨_,List.getElem?_eq_getElem this⟩
     obtain⟨y0,hy0⟩:=h0
     have hspot:a.spot=none∧a.block<W.heap.size:=by
      have:=hcells 0 y0 hy0
      simp only[Nat.zero_div,Nat.zero_mul,Nat.zero_mod] at this
      have e0:(a.add 0).add 0=a:=by simp[Addr.add]
      rw[e0] at this
      exact⟨World.cell?_spot this,World.block_lt_of_cell? W _ this⟩
     obtain⟨ab,ao,as⟩:=a
     obtain⟨rfl,hb⟩:=hspot
     have hcell':∀ i y,css.flatten[i]?=some y→W.cell? ⟨ab,ao+i,none⟩=some y:=by
      intro i y hy
      have:=hcells i y hy
      rw[Addr.add_mk,Addr.add_mk] at this
      rw[←this,show ao+i / P.cellsOf e*P.cellsOf e+i % P.cellsOf e=ao+i by
       have:=Nat.div_add_mod i (P.cellsOf e)
       rw[Nat.mul_comm] at this
       omega]
     obtain⟨hle,I'⟩:=i1.inp.push (cs:=l) v1 (cb:=ab) (co:=ao) (sz:=P.cellsOf e) (cap:=cap) hb hcell'
     refine⟨_,_,[.slice (some (A1.next,0,0)) 0 len cap 0],⟨Mu.le_trans i1.le hle,i1.ext.trans (ext_push _ _),I'⟩,?_,?_⟩
     ·have hp:plc (m1.add A1.next 0 ⟨ab,ao,0,cap,P.cellsOf e⟩) (A1.next,0,0)=some ⟨ab,ao,none⟩:=by
       unfold plc
       have:(m1.add A1.next 0 ⟨ab,ao,0,cap,P.cellsOf e⟩) A1.next 0=some ⟨ab,ao,0,cap,P.cellsOf e⟩:=by
        show (if A1.next=A1.next∧0=0 then _ else _)=_
        rw[if_pos ⟨rfl,rfl⟩]
       simp[this]
      simp[cvos,cvo,hp,hl]
     ·unfold ARd
      rw[hu]
      refine .inr (.inr ⟨A1.next,len,cap,l,elems.map (·.1),rest.map (·.1),rfl,Nat.lt_succ_self _,by omega,hm,?_,rfl,by simpa using hlen,?_,?_,?_⟩)
      ·rw[St.get_push,if_pos rfl]
      ·rw[←List.map_append,List.length_map,hcap]
      ·rw[←qgq v1,hfl]
      ·rw[←List.map_append,←hcap]
       exact r1.mono fun _ _ _=>ARd.ext (ext_push _ _)
  ·rename_i fs hu
   simp only[Bool.and_eq_true,List.all_eq_true,beq_iff_eq,List.mem_range] at h
   obtain⟨⟨hk,hsum⟩,hoff⟩:=h
   obtain⟨xs,n',hn,hx,hl,hxl,hf⟩:=DataW.trod_struct hu ht
   cases hn
   cases hx
   have T:=trodAt_fields (cs:=cs) fs.toList 0 xs (fun i f hi=>hf i f (by simpa using hi)) (by simpa using hxl) (fun i f hi=>by
    have hlt:=(List.getElem?_eq_some_iff.1 hi).1
    have:=hoff i hlt
    rw[hi] at this
    simpa using this)
   simp only[List.drop_zero] at T
   obtain⟨m1,A1,l,i1,v1,r1⟩:=imp_all' k n (imp_one k n) _ _ _ (by
    intro t ht
    obtain⟨f,hf,rfl⟩:=List.mem_map.1 ht
    exact hk f hf) T m A I
   rw[cutBy_flatten _ _ (by rw[hl,hsum])] at v1
   exact⟨m1,A1,l,i1,v1,by unfold ARd;rw[hu];exact⟨_,rfl,r1⟩⟩
  ·cases h


def ARdV (P:Program) (A:St) (t:TypeId) (a:AV) (d:DataW H):Prop:=
 ∃ n l,ARd P A n t l d∧(match P.underlying t with|some (.struct _)=>a=.agg l|_=>l=[a])
def argsRd (P:Program) (A:St):List TypeId→List AV→List (DataW H)→Prop
 | [],[],[]=>True
 | t::ts,a::as,d::ds=>ARdV P A t a d∧argsRd P A ts as ds
 | _,_,_=>False

theorem imp_arg {k:Nat} {t:TypeId} (hk:argOk P k t=true) {base:Nat} {v:Value} {d:DataW H} {p:List MemPlace} (hv:Value.okWide P W .any base t v) (h:DataW.Trod enc P W 0 (fun _=>true) true t v d p) {m:Mu} {A:St} (I:Inp W m A) :
  ∃ m' A' a,Imp W m A m' A'∧cvo m' a=some v∧ARdV P A' t a d:=by
 obtain⟨n,hn⟩:=h
 obtain⟨m1,A1,l,i1,v1,r1⟩:=imp_one k n t hk _ _ _ hn m A I
 have flat:∀ (hv':v.cells=#[v]) (hu:∀ fs,P.underlying t≠some (.struct fs)),∃ m' A' a,Imp W m A m' A'∧cvo m' a=some v∧ARdV P A' t a d:=fun hv' hu=>by
  rw[hv'] at v1
  cases l with
  | nil=>simp[cvos] at v1
  | cons a l=>
   have hl:=qgq v1
   simp at hl
   subst hl
   refine⟨m1,A1,a,i1,?_,n,[a],r1,?_⟩
   ·simp only[cvos] at v1
    split at v1
    ·rename_i y ys h1 h2
     simp at v1
     rw[←v1.1];exact h1
    ·cases v1
   ·split
    ·rename_i fs hfs;exact absurd hfs (hu fs)
    ·rfl
 cases k with
 | zero=>cases hk
 | succ k=>
 unfold argOk at hk
 split at hk
 ·rename_i hu
  obtain⟨b,rfl⟩:=WideShapes.okWide_bool hu hv
  exact flat rfl (fun fs h=>by rw[hu] at h;cases h)
 ·rename_i kd hu
  obtain⟨b,rfl⟩:=WideShapes.okWide_int hu hv
  exact flat rfl (fun fs h=>by rw[hu] at h;cases h)
 ·rename_i hu
  obtain⟨b,rfl⟩:=WideShapes.okWide_string hu hv
  exact flat rfl (fun fs h=>by rw[hu] at h;cases h)
 ·rename_i e hu
  obtain⟨a,len,cap,rfl⟩:=WideShapes.okWide_slice hu hv
  exact flat rfl (fun fs h=>by rw[hu] at h;cases h)
 ·rename_i fs hu
  simp only[Value.okWide,hu] at hv
  obtain⟨cs,rfl,_,_⟩:=hv
  refine⟨m1,A1,.agg l,i1,?_,n,l,r1,by rw[hu]⟩
  have v1':cvos m1 l=some cs.toList:=v1
  simp[cvo,v1']
 ·cases hk

theorem ARdV.ext {A B:St} (h:A.Ext B) {t:TypeId} {a:AV} {d:DataW H}:ARdV P A t a d→ARdV P B t a d:=fun ⟨n,l,h1,h2⟩=>⟨n,l,h1.ext h,h2⟩

theorem imp_args {k:Nat}:∀ {ts:List TypeId} {vs:List Value} {ds:List (DataW H)} {ps:List MemPlace},(∀ t∈ts,argOk P k t=true)→(∀ (j:Nat) t v,ts[j]?=some t→vs[j]?=some v→∃ base,Value.okWide P W .any base t v) →
  DataW.TrodAll enc P W 0 (fun _=>true) true ts vs ds ps→∀ {m:Mu} {A:St},Inp W m A→∃ m' A' as,Imp W m A m' A'∧cvos m' as=some vs∧argsRd P A' ts as ds
 | [],[],[],_,_,_,_,m,A,I=>⟨m,A,[],⟨Mu.le_refl m,St.Ext.refl A,I⟩,rfl,trivial⟩
 | t::ts,v::vs,d::ds,_,hk,hv,⟨p,q,h,hs,_⟩,m,A,I=>by
  obtain⟨base,hb⟩:=hv 0 t v rfl rfl
  obtain⟨m1,A1,a,i1,v1,r1⟩:=imp_arg (hk t (by simp)) hb h I
  obtain⟨m2,A2,as,i2,v2,r2⟩:=imp_args (ts:=ts) (fun t ht=>hk t (by simp[ht])) (fun j t' v' h1 h2=>hv (j+1) t' v' (by simpa using h1) (by simpa using h2)) hs i1.inp
  exact⟨m2,A2,a::as,⟨Mu.le_trans i1.le i2.le,i1.ext.trans i2.ext,i2.inp⟩,by simp[cvos,quq i2.le _ _ v1,v2],r1.ext i2.ext,r2⟩
 | [],[],_::_,_,_,_,h,_,_,_=>h.elim
 | [],_::_,_,_,_,_,h,_,_,_=>h.elim
 | _::_,[],_,_,_,_,h,_,_,_=>h.elim
 | _::_,_::_,[],_,_,_,h,_,_,_=>h.elim

theorem trodAll_stays (hl:laidOutB P=true) {w':World} (same:∀ (i:Nat) (o:Obj),W.heap[i]?=some o→w'.heap[i]?=some o):∀ {ts:List TypeId} {vs:List Value} {ds:List (DataW H)} {ps:List MemPlace},(∀ t∈ts,P.readableRec t=true∧t<P.types.size) →
  DataW.TrodAll enc P W 0 (fun _=>true) true ts vs ds ps→(∀ p∈ps,p.block<W.heap.size)→DataW.TrodAll enc P w' 0 (fun b=>decide (b<W.heap.size)) true ts vs ds ps
 | [],[],[],_,_,h,_=>h
 | t::ts,v::vs,d::ds,_,hr,⟨p,q,h,hs,rfl⟩,hlt=>by
  have hb:∀ i,i<W.heap.size→w'.heap[i]?=W.heap[i]?:=fun i hi=>by
   have e:W.heap[i]?=some W.heap[i]:=Array.getElem?_eq_getElem hi
   rw[e];exact same i _ e
  refine⟨p,q,WideElems.Trod_stays hl (hr t (by simp)).1 (hr t (by simp)).2 h (fun x hx=>?_) (fun x hx=>by simpa using hlt x (by simp[hx])),trodAll_stays hl same (fun t ht=>hr t (by simp[ht])) hs (fun x hx=>hlt x (by simp[hx])),rfl⟩
  have hx':=hlt x (by simp[hx])
  cases x with
  | cell b o=>exact World.cell?_of_block (w:=W) (hb b hx')
  | map b=>exact hb b hx'
 | [],[],_::_,_,_,h,_=>h.elim
 | [],_::_,_,_,_,h,_=>h.elim
 | _::_,[],_,_,_,h,_=>h.elim
 | _::_,_::_,[],_,_,h,_=>h.elim

end

@[simp] theorem known_int (k:IntKind) (n:Int):known (.int k n)=some (.int k n):=rfl
@[simp] theorem known_bool (b:Bool):known (.bool b)=some (.bool b):=rfl
@[simp] theorem known_str (s:List UInt8):known (.str s)=some (.str s):=rfl
@[simp] theorem known_slice (a:Option Pl) (po len cap q:Nat):known (.slice a po len cap q)=some (.slice a po len cap q):=rfl
@[simp] theorem known_ptr (a:Option Pl):known (.ptr a)=some (.ptr a):=rfl
@[simp] theorem known_map (a:Option Nat):known (.map a)=some (.map a):=rfl
@[simp] theorem known_agg (l:List AV):known (.agg l)=some (.agg l):=rfl
@[simp] theorem known_tuple (l:List AV):known (.tuple l)=some (.tuple l):=rfl
@[simp] theorem known_iface (t:TypeId) (v:AV):known (.iface t v)=some (.iface t v):=rfl
@[simp] theorem known_nilIface:known .nilIface=some .nilIface:=rfl
@[simp] theorem known_func (f:Fn) (a b:List AV):known (.func f a b)=some (.func f a b):=rfl
@[simp] theorem known_nilFunc:known .nilFunc=some .nilFunc:=rfl
@[simp] theorem resVal_tmp (E:Env) (A:St) (t:Nat) (h:t<1000000):resVal E A (.tmp t)=known (Env.at E t):=by
 show known (bif Nat.blt t 1000000 then Env.at E t else .bot)=_
 rw[show Nat.blt t 1000000=true from by rw[Nat.blt_eq];exact h]
 rfl
@[simp] theorem resVals_nil (E:Env) (A:St):resVals E A []=some []:=rfl
@[simp] theorem resVals_cons (E:Env) (A:St) (r:ARes) (l:List ARes):resVals E A (r::l)=match resVal E A r with|some v=>(match resVals E A l with|some vs=>some (v::vs)|none=>none)|none=>none:=rfl
@[simp] theorem packRes_one (v:AV):packRes [v]=v:=rfl
@[simp] theorem packRes_two (v w:AV):packRes [v,w]=.tuple [v,w]:=rfl
@[simp] theorem packRes_nil:packRes []=.tuple []:=rfl
@[simp] theorem packRes_three (v w u:AV):packRes [v,w,u]=.tuple [v,w,u]:=rfl

inductive Sl (A:St) (sz:Nat):AV→List AV→Prop where
 | nil (po cap q:Nat):Sl A sz (.slice none po 0 cap q) []
 | mem {f v o po len cap q:Nat} {cs:List AV} (hf:f<A.next) (hc:A.cells (f,v,o) (len*sz)=some cs) (hq:q=0∧len≤cap∨q=sz∧q≠0):Sl A sz (.slice (some (f,v,o)) po len cap q) cs

theorem St.look_ext {A B:St} {p:Pl} (h:B.get p.1=A.get p.1):B.look p=A.look p:=by unfold St.look;rw[h]
theorem St.cells_ext {A B:St} {p:Pl} {n:Nat} (h:B.get p.1=A.get p.1):B.cells p n=A.cells p n:=by unfold St.cells;rw[St.look_ext h]
theorem Sl.ext {A B:St} (h:A.Ext B) {sz:Nat} {s:AV} {cs:List AV} (e:Sl A sz s cs):Sl B sz s cs:=by
 cases e with
 | nil po cap q=>exact .nil po cap q
 | mem hf hc hq=>exact .mem (Nat.lt_of_lt_of_le hf h.next) (by rw[St.cells_ext (h.get _ hf)];exact hc) hq
theorem Sl.of_get {A B:St} {sz:Nat} {s:AV} {cs:List AV} (e:Sl A sz s cs) (hn:A.next≤B.next) (h:∀ p po len cap q,s=.slice (some p) po len cap q→B.get p.1=A.get p.1):Sl B sz s cs:=by
 cases e with
 | nil po cap q=>exact .nil po cap q
 | mem hf hc hq=>exact .mem (Nat.lt_of_lt_of_le hf hn) (by rw[St.cells_ext (h _ _ _ _ _ rfl)];exact hc) hq
theorem cells_length {A:St} {p:Pl} {n:Nat} {cs:List AV} (h:A.cells p n=some cs):cs.length=n:=by
 unfold St.cells at h
 split at h
 ·split at h
  ·rename_i hc;cases h;simp;omega
  ·cases h
 ·cases h
def AV.slen:AV→Nat
 | .slice _ _ n _ _=>n
 | _=>0
theorem Sl.length {A:St} {sz:Nat} {s:AV} {cs:List AV} (e:Sl A sz s cs):cs.length=s.slen*sz:=by
 cases e with
 | nil po cap q=>simp[AV.slen]
 | mem hf hc hq=>exact cells_length hc
theorem Sl.isSlice {A:St} {sz:Nat} {s:AV} {cs:List AV} (e:Sl A sz s cs):∃ a po cap q,s=.slice a po s.slen cap q:=by
 cases e with
 | nil po cap q=>exact⟨_,_,_,_,rfl⟩
 | mem hf hc hq=>exact⟨_,_,_,_,rfl⟩

theorem cells_sub {A:St} {f v o n:Nat} {cs:List AV} (h:A.cells (f,v,o) n=some cs) {i k:Nat} (hi:i+k≤n):A.cells (f,v,o+i) k=some ((cs.drop i).take k):=by
 unfold St.cells at *
 have e:A.look (f,v,o+i)=A.look (f,v,o):=rfl
 rw[e]
 split at h
 ·rename_i all x nv ro hl
  split at h
  ·rename_i hc
   cases h
   dsimp only at hc ⊢
   rw[if_pos (by omega)]
   congr 1
   rw[List.drop_take,List.drop_drop,List.take_take]
   congr 1
   omega
  ·cases h
 ·cases h

theorem Sl.cut {A:St} {sz:Nat} {s:AV} {cs:List AV} (e:Sl A sz s cs) {lo hi:Nat} (h1:lo≤hi) (h2:hi≤s.slen) {k j:IntKind} :
  ∃ s',cutSliceOf sz s (some (.int k lo)) (some (.int j hi)) none=some s'∧s'.slen=hi - lo∧Sl A sz s' ((cs.take (hi*sz)).drop (lo*sz)):=by
 cases e with
 | nil po cap q=>
  simp only[AV.slen,Nat.le_zero] at h2
  subst h2
  have:lo=0:=by omega
  subst this
  refine⟨.slice none po 0 0 q,?_,rfl,by simpa using Sl.nil po 0 q⟩
  simp[cutSliceOf,boundHi,boundLo,bound?]
 | @mem f v o po len cap q _ hf hc hq=>
  simp only[AV.slen] at h2
  have hle:lo*sz+(hi - lo)*sz≤len*sz:=by
   rw[←Nat.add_mul];exact Nat.mul_le_mul_right _ (by omega)
  have hsub:=cells_sub hc hle
  have heq:((cs.take (hi*sz)).drop (lo*sz))=(cs.drop (lo*sz)).take ((hi - lo)*sz):=by
   rw[List.drop_take];congr 1;rw[Nat.sub_mul]
  rcases hq with ⟨rfl,hq⟩|⟨rfl,hq⟩
  ·refine⟨.slice (some (f,v,if cap=lo then o else o+lo*sz)) 0 (hi - lo) (cap - lo) 0,?_,rfl,?_⟩
   ·simp[cutSliceOf,boundHi,boundLo,boundMx,bound?]
    rw[if_pos (by omega)]
    simp[h1]
    omega
   ·rw[heq]
    refine .mem hf ?_ (.inl ⟨rfl,by omega⟩)
    by_cases hcl:cap=lo
    ·rw[if_pos hcl]
     have h0:hi - lo=0:=by omega
     rw[h0,Nat.zero_mul] at hsub ⊢
     simpa using cells_sub hc (i:=0) (k:=0) (by omega)
    ·rw[if_neg hcl];exact hsub
  ·obtain⟨q',rfl⟩:∃ q',q=q'+1:=⟨q - 1,by omega⟩
   refine⟨.slice (some (f,v,o+lo*(q'+1))) (if lo=0 then po else o) (hi - lo) (cap+lo) (q'+1),?_,rfl,?_⟩
   ·simp[cutSliceOf,boundHi,boundLo,boundMx,bound?,h2,h1]
   ·rw[heq]
    exact .mem hf hsub (.inr ⟨rfl,by omega⟩)

theorem cutSlice_lo {sz:Nat} {s:AV} {hi:Option AV} (k:IntKind):cutSliceOf sz s none hi none=cutSliceOf sz s (some (.int k 0)) hi none:=by
 have e:∀ h,boundLo (some (.int k 0)) h=boundLo none h:=fun h=>by simp[boundLo,bound?]
 cases s with
 | slice a po len cap q=>
  cases a with
  | none=>simp only[cutSliceOf,e]
  | some p=>
   obtain⟨f,v,o⟩:=p
   cases q with
   | zero=>simp only[cutSliceOf,e]
   | succ q=>simp only[cutSliceOf,e]
 | _=>rfl
theorem Sl.cutTo {A:St} {sz:Nat} {s:AV} {cs:List AV} (e:Sl A sz s cs) {hi:Nat} (h2:hi≤s.slen) {j:IntKind} :
  ∃ s',cutSliceOf sz s none (some (.int j hi)) none=some s'∧s'.slen=hi∧Sl A sz s' (cs.take (hi*sz)):=by
 obtain⟨s',h3,h4,h5⟩:=e.cut (lo:=0) (hi:=hi) (Nat.zero_le _) h2 (k:=.i64) (j:=j)
 exact⟨s',by rw[cutSlice_lo .i64];exact h3,h4,by simpa using h5⟩
theorem Sl.cutFrom {A:St} {sz:Nat} {s:AV} {cs:List AV} (e:Sl A sz s cs) {lo:Nat} (h1:lo≤s.slen) {k:IntKind} :
  ∃ s',cutSliceOf sz s (some (.int k lo)) none none=some s'∧s'.slen=s.slen - lo∧Sl A sz s' (cs.drop (lo*sz)):=by
 obtain⟨s',h3,h4,h5⟩:=e.cut (lo:=lo) (hi:=s.slen) h1 (Nat.le_refl _) (k:=k) (j:=.i64)
 refine⟨s',?_,h4,?_⟩
 ·rw[←h3]
  cases e with
  | nil po cap q=>simp[cutSliceOf,boundHi,bound?,AV.slen]
  | @mem f v o po len cap q _ hf hc hq=>
   cases q with
   | zero=>
    have hq':len≤cap:=by rcases hq with h|h;exact h.2;exact absurd rfl h.2
    simp[cutSliceOf,boundHi,boundMx,bound?,AV.slen,hq']
   | succ q=>simp[cutSliceOf,boundHi,boundMx,bound?,AV.slen]
 ·rw[List.take_of_length_le (by rw[e.length];exact Nat.le_refl _)] at h5
  exact h5

inductive Own (lo:Nat) (A:St) (sz:Nat):AV→List AV→Prop where
 | nil (po cap q:Nat):Own lo A sz (.slice none po 0 cap q) []
 | mem {f v o po len cap q:Nat} {all:List AV} {vers:List Ver} {nv:Nat} {y:Ver} (hlo:lo≤f) (hf:f<A.next) (hg:A.get f=some (.cells all vers nv false)) (hv:findVer v vers=some y)
   (h1:y.lo≤o) (h2:o+len*sz≤y.hi) (h3:y.hi≤all.length) (hq:q=0∧len≤cap∧o+cap*sz≤y.hi∨q=sz∧q≠0):Own lo A sz (.slice (some (f,v,o)) po len cap q) ((all.drop o).take (len*sz))

theorem Own.sl {lo:Nat} {A:St} {sz:Nat} {s:AV} {cs:List AV} (e:Own lo A sz s cs):Sl A sz s cs:=by
 cases e with
 | nil po cap q=>exact .nil po cap q
 | @mem f v o po len cap q all vers nv y hlo hf hg hv h1 h2 h3 hq=>
  refine .mem hf ?_ (hq.imp (fun h=>⟨h.1,h.2.1⟩) id)
  unfold St.cells St.look
  dsimp only
  rw[hg]
  dsimp only
  rw[hv]
  dsimp only[Option.map_some]
  rw[if_pos ⟨h1,h2,h3⟩]
theorem Own.mono {lo lo':Nat} (h:lo'≤lo) {A:St} {sz:Nat} {s:AV} {cs:List AV} (e:Own lo A sz s cs):Own lo' A sz s cs:=by
 cases e with
 | nil po cap q=>exact .nil po cap q
 | mem hlo hf hg hv h1 h2 h3 hq=>exact .mem (Nat.le_trans h hlo) hf hg hv h1 h2 h3 hq
theorem Own.of_get {lo:Nat} {A B:St} {sz:Nat} {s:AV} {cs:List AV} (e:Own lo A sz s cs) (hn:A.next≤B.next) (h:∀ p po len cap q,s=.slice (some p) po len cap q→B.get p.1=A.get p.1):Own lo B sz s cs:=by
 cases e with
 | nil po cap q=>exact .nil po cap q
 | mem hlo hf hg hv h1 h2 h3 hq=>exact .mem hlo (Nat.lt_of_lt_of_le hf hn) ((h _ _ _ _ _ rfl).trans hg) hv h1 h2 h3 hq
theorem Own.ext {lo:Nat} {A B:St} {sz:Nat} {s:AV} {cs:List AV} (e:Own lo A sz s cs) (h:A.Ext B):Own lo B sz s cs:=by
 refine e.of_get h.next fun p po len cap q hs=>?_
 cases e with
 | nil=>cases hs
 | mem hlo hf hg hv h1 h2 h3 hq=>cases hs;exact h.get _ hf

def AV.into (f:Nat):AV→Bool
 | .slice (some p) _ _ _ _=>p.1 == f
 | _=>false

structure But (A B:St) (s:AV):Prop where
 next:A.next≤B.next
 get:∀ f,f<A.next→s.into f=false→B.get f=A.get f

theorem qdq (A:St) (cs:List AV) (sz:Nat):A.Ext (A.make cs sz).2:=ext_push _ _
theorem get_make (A:St) (cs:List AV) (sz:Nat):(A.make cs sz).2.get A.next=some (.cells cs [⟨0,0,cs.length,sz⟩] 1 false):=by
 show (A.push _).get A.next=_
 rw[St.get_push,if_pos rfl]
theorem own_make (A:St) {cs:List AV} {sz n:Nat} (h:cs.length=n*sz) (hz:sz≠0) {lo:Nat} (hlo:lo≤A.next):Own lo (A.make cs sz).2 sz (.slice (some (A.next,0,0)) 0 n 0 sz) cs:=by
 have e:cs=(cs.drop 0).take (n*sz):=by simp[←h]
 conv=>rhs;rw[e]
 exact .mem hlo (Nat.lt_succ_self _) (get_make A cs sz) (by simp[findVer];rfl) (Nat.zero_le _) (by simp[h]) (Nat.le_refl _) (.inr ⟨rfl,hz⟩)
theorem ext_makeV (A:St) (cs:List AV) (sz u:Nat):A.Ext (A.makeV cs sz u).2:=ext_push _ _
theorem get_makeV (A:St) (cs:List AV) (sz u:Nat):(A.makeV cs sz u).2.get A.next=some (.cells cs [⟨u,0,cs.length,sz⟩] (u+1) false):=by
 show (A.push _).get A.next=_
 rw[St.get_push,if_pos rfl]
theorem own_text (A:St) {cs:List AV} {n:Nat} (h:cs.length=n) {lo:Nat} (hlo:lo≤A.next):Own lo (A.makeV cs 1 1).2 1 (.slice (some (A.next,1,0)) 0 n 0 1) cs:=by
 have e:cs=(cs.drop 0).take (n*1):=by simp[←h]
 conv=>rhs;rw[e]
 exact .mem hlo (Nat.lt_succ_self _) (get_makeV A cs 1 1) (by simp[findVer];rfl) (Nat.zero_le _) (by simp[h]) (Nat.le_refl _) (.inr ⟨rfl,by decide⟩)
theorem qtq (A:St) {cs:List AV} {sz n:Nat} (h:cs.length=n*sz) {lo:Nat} (hlo:lo≤A.next) {len:Nat} (hl:len≤n):Own lo (A.make cs sz).2 sz (.slice (some (A.next,0,0)) 0 len n 0) (cs.take (len*sz)):=by
 have e:cs.take (len*sz)=(cs.drop 0).take (len*sz):=by simp
 rw[e]
 exact .mem hlo (Nat.lt_succ_self _) (get_make A cs sz) (by simp[findVer];rfl) (Nat.zero_le _) (by simp[h];exact Nat.mul_le_mul_right _ hl) (Nat.le_refl _) (.inl ⟨rfl,hl,by simp[h]⟩)

theorem Sl.first {A:St} {sz:Nat} {x:AV} {ds:List AV} (h:Sl A sz x ds):lenA x=some x.slen∧firstA A sz x.slen x=some ds:=by
 cases h with
 | nil po cap q=>exact⟨rfl,rfl⟩
 | mem hf hc hq=>exact⟨rfl,hc⟩

theorem grown_cells {all ds rest:List AV} {o a b:Nat} (h:o+a≤all.length) (hd:ds.length=b):((all.take (o+a)++(ds++rest)).drop o).take (a+b)=(all.drop o).take a++ds:=by
 have h1:(all.take (o+a)).length=o+a:=by simp;omega
 rw[List.drop_append_of_le_length (by omega),List.drop_take]
 have h2:((all.drop o).take (o+a - o)).length=a:=by simp;omega
 rw[show o+a - o=a by omega] at *
 generalize (all.drop o).take a=z at *
 subst h2
 rw[List.take_length_add_append,List.take_append_of_le_length (by omega),List.take_of_length_le (by omega)]

theorem But.refl (A:St) (s:AV):But A A s:=⟨Nat.le_refl _,fun _ _ _=>rfl⟩
theorem But.of_ext {A B:St} (h:A.Ext B) (s:AV):But A B s:=⟨h.next,fun f hf _=>h.get f hf⟩
theorem but_put {A:St} {f v o po len cap q:Nat} (b:Blk):But A (A.put f b) (.slice (some (f,v,o)) po len cap q):=
 ⟨Nat.le_refl _,fun g _ hi=>by rw[St.get_put,if_neg];rintro rfl;simp[AV.into] at hi⟩

theorem own_write {lo:Nat} {A:St} {sz f v o len:Nat} {all:List AV} {vers:List Ver} {nv:Nat} {y:Ver} {ds:List AV} {n:Nat} (hlo:lo≤f) (hf:f<A.next) (hg:A.get f=some (.cells all vers nv false)) (hv:findVer v vers=some y)
  (h1:y.lo≤o) (h3:y.hi≤all.length) (hd:ds.length=n*sz) (hfl:ds.all AV.flat=true) (hfit:o+(len+n)*sz≤y.hi) {po cap q:Nat} (hq:q=0∧len+n≤cap∧o+cap*sz≤y.hi∨q=sz∧q≠0) :
  ∃ B,A.write (f,v,o+len*sz) ds=some B∧Own lo B sz (.slice (some (f,v,o)) po (len+n) cap q) ((all.drop o).take (len*sz)++ds)∧B=A.put f (.cells (splice all (o+len*sz) ds) [y] nv false):=by
 rw[Nat.add_mul] at hfit
 have hlook:A.look (f,v,o+len*sz)=some (all,y,nv,false):=by
  unfold St.look;dsimp only;rw[hg];dsimp only;rw[hv];rfl
 refine⟨_,?_,?_,rfl⟩
 ·unfold St.write
  rw[hlook]
  dsimp only
  rw[if_pos ⟨by omega,by omega,h3,hfl⟩]
 ·have e:=grown_cells (all:=all) (ds:=ds) (rest:=all.drop (o+len*sz+ds.length)) (o:=o) (a:=len*sz) (b:=n*sz) (by omega) hd
  rw[←e,←Nat.add_mul]
  have hy:=(qwq hv).2
  exact .mem hlo hf (by rw[St.get_put,if_pos rfl];rfl) (by simp[findVer,hy]) h1 (by rw[Nat.add_mul];omega) (by rw[show (all.take (o+len*sz)++(ds++all.drop (o+len*sz+ds.length))).length=all.length from splice_length all ds _ (by omega)];exact h3) hq

theorem own_append {lo:Nat} {A:St} {sz bytes:Nat} {s x:AV} {cs ds:List AV} (hs:Own lo A sz s cs) (hx:Sl A sz x ds) (hlo:lo≤A.next) (hz:sz≠0) (hfl:ds.all AV.flat=true)
  (hb:(s.slen+x.slen)*bytes≤70368744177664) (hb':s.slen+x.slen≤70368744177664) :
  ∃ s' B,appendOf A sz bytes s x=some (s',B)∧s'.slen=s.slen+x.slen∧Own lo B sz s' (cs++ds)∧But A B s∧∀ f,s'.into f=true→s.into f=true∨A.next≤f:=by
 obtain⟨hn,hf⟩:=hx.first
 have hlen:=hx.length
 generalize x.slen=n at *
 unfold appendOf
 rw[hn]
 dsimp only
 rw[hf]
 dsimp only
 rw[if_pos ⟨hfl,hlen,hz⟩]
 by_cases hn0:n=0
 ·subst hn0
  have:ds=[]:=by simpa using hlen
  subst this
  refine⟨s,A,?_,by simp,by simpa using hs,But.refl A s,fun f h=>.inl h⟩
  cases hs with
  | nil po cap q=>simp
  | @mem f v o po len cap q all vers nv y hlo' hf' hg hv h1 h2 h3 hq=>
   cases q with
   | zero=>
    have:len≤cap:=by rcases hq with h|h;exact h.2.1;exact absurd rfl h.2
    simp[this]
   | succ q=>simp
 ·cases hs with
  | nil po cap q=>
   simp only[AV.slen,Nat.zero_add] at hb hb'
   refine⟨.slice (some (A.next,0,0)) 0 n 0 sz,(A.make ds sz).2,?_,by simp[AV.slen],by simpa using own_make A hlen hz hlo,But.of_ext (qdq _ _ _) _,fun f h=>.inr ?_⟩
   ·simp only[ne_eq,not_true_eq_false,if_false,hn0]
    rw[if_pos ⟨hb,hb'⟩]
    rfl
   ·simp[AV.into] at h;omega
  | @mem f v o po len cap q all vers nv y hlo' hf' hg hv h1 h2 h3 hq=>
   have hsl:=(Own.mem (po:=po) hlo' hf' hg hv h1 h2 h3 hq).sl
   simp only[AV.slen] at hb hb'
   cases q with
   | zero=>
    have hq':len≤cap∧o+cap*sz≤y.hi:=by rcases hq with h|h;exact h.2;exact absurd rfl h.2
    dsimp only
    by_cases hfit:len+n≤cap
    ·have hfit':o+(len+n)*sz≤y.hi:=Nat.le_trans (Nat.add_le_add_left (Nat.mul_le_mul_right _ hfit) _) hq'.2
     obtain⟨B,w1,w2,rfl⟩:=own_write (po:=po) (cap:=cap) (q:=0) hlo' hf' hg hv h1 h3 hlen hfl hfit' (.inl ⟨rfl,hfit,hq'.2⟩)
     refine⟨.slice (some (f,v,o)) po (len+n) cap 0,_,?_,by simp[AV.slen],w2,but_put _,fun g h=>.inl (by simpa[AV.into] using h)⟩
     rw[if_pos hfit,if_neg hn0,w1]
    ·have hcells:A.cells (f,v,o) (len*sz)=some ((all.drop o).take (len*sz)):=by
      cases hsl with
      | mem _ hc _=>exact hc
     have hcl:=cells_length hcells
     refine⟨.slice (some (A.next,0,0)) 0 (len+n) 0 sz,(A.make ((all.drop o).take (len*sz)++ds) sz).2,?_,by simp[AV.slen],own_make A (by rw[List.length_append,hcl,hlen,Nat.add_mul]) hz hlo,But.of_ext (qdq _ _ _) _,fun g h=>.inr ?_⟩
     ·rw[if_neg hfit,if_pos ⟨hb,hb'⟩,hcells]
      rfl
     ·simp[AV.into] at h;omega
   | succ q=>
    have hq':q+1=sz:=by rcases hq with h|h;exact absurd h.1 (by omega);exact h.1
    dsimp only
    rw[if_neg hn0,if_pos ⟨hb,hb',hq'⟩,hg]
    dsimp only
    rw[hv]
    dsimp only
    rw[if_pos ⟨h1,h2,h3⟩]
    by_cases hfit:o+(len+n)*sz≤y.hi
    ·obtain⟨B,w1,w2,rfl⟩:=own_write (po:=po) (cap:=cap) (q:=q+1) hlo' hf' hg hv h1 h3 hlen hfl hfit (.inr ⟨hq',by omega⟩)
     refine⟨.slice (some (f,v,o)) po (len+n) cap (q+1),_,?_,by simp[AV.slen],w2,but_put _,fun g h=>.inl (by simpa[AV.into] using h)⟩
     rw[if_pos hfit,w1]
    ·rw[if_neg hfit]
     refine⟨_,_,rfl,by simp[AV.slen],?_,but_put _,fun g h=>.inl (by simpa[AV.into] using h)⟩
     have e:=grown_cells (all:=all) (ds:=ds) (rest:=[]) (o:=o) (a:=len*sz) (b:=n*sz) (by omega) hlen
     rw[List.append_nil] at e
     rw[←e,←Nat.add_mul]
     exact .mem hlo' hf' (by rw[St.get_put,if_pos rfl]) (by simp[findVer];rfl) (Nat.le_refl _) (Nat.le_refl _) (by simp[hlen,Nat.add_mul];omega) (.inr ⟨hq',by omega⟩)
section
variable {H:Type} {P:Program} {A:St}

theorem argInt {t:TypeId} {k:IntKind} (ht:P.underlying t=some (.int k)) {a:AV} {d:DataW H} (h:ARdV P A t a d):∃ i,a=.int k i∧k.min≤i∧i≤k.max:=by
 obtain⟨n,l,h2,h3⟩:=h
 rw[ht] at h3
 cases n with
 | zero=>exact h2.elim
 | succ n=>
  unfold ARd at h2
  rw[ht] at h2
  obtain⟨i,rfl,hw,_⟩:=h2
  cases h3
  simp only[Lit.wf,Bool.and_eq_true,decide_eq_true_eq] at hw
  exact⟨i,rfl,hw⟩
theorem rdInt {n:Nat} {t:TypeId} {k:IntKind} (ht:P.underlying t=some (.int k)) {l:List AV} {d:DataW H} (h:ARd P A n t l d):∃ i,l=[.int k i]∧k.min≤i∧i≤k.max:=by
 obtain⟨i,h1,h2⟩:=argInt ht (a:=l.headD .bot) (d:=d) ⟨n,l,h,by
  rw[ht]
  cases n with
  | zero=>exact h.elim
  | succ n=>
   unfold ARd at h
   rw[ht] at h
   obtain⟨i,rfl,_⟩:=h
   rfl⟩
 cases n with
 | zero=>exact h.elim
 | succ n=>
  unfold ARd at h
  rw[ht] at h
  obtain⟨j,rfl,_⟩:=h
  cases h1
  exact⟨i,rfl,h2⟩
theorem rdStr {n:Nat} {t:TypeId} (ht:P.underlying t=some .string) {l:List AV} {d:DataW H} (h:ARd P A n t l d):∃ s,l=[.str s]∧s.length≤maxLen:=by
 cases n with
 | zero=>exact h.elim
 | succ n=>
  unfold ARd at h
  rw[ht] at h
  obtain⟨j,rfl,h,_⟩:=h
  exact⟨j,rfl,h⟩

structure OpD where
 kind:Int
 key:List UInt8
 n:Int
 lo:Int
def i64ok (i:Int):Prop:=-9223372036854775808≤i∧i≤9223372036854775807
def OpD.cells (o:OpD):List AV:=[.int .i64 o.kind,.str o.key,.int .i64 o.n,.int .i64 o.lo]
end
end Go.AM
