/- What the law HeapLasts starts from: its arguments' types; the law in any state that a call starts from. -/
import Derived.Test.YtlaoookdegmnnaaGreatDoorStAwake
import Derived.Test.YtlaoookdegmnnaaGreatDoorStBase
import Derived.Test.YtlaoookdegmnnaaGreatDoorHpTape
import Derived.Test.YtlaoookdegmnnaaGreatDoorAmKeys
import Derived.Lib.SlKeysI
import Derived.Shelf.SlIterI.Nil
import Derived.Shelf.SlIterI.Sorted
import Derived.Test.YtlaoookdegmnnaaGreatDoorAmRun
import Derived.Test.YtlaoookdegmnnaaGreatDoorAmArg
import Derived.Test.YtlaoookdegmnnaaGreatDoorStFrames
import Derived.Test.YtlaoookdegmnnaaGreatDoorHpCellA
import Derived.Test.YtlaoookdegmnnaaGreatDoorHlArg
import Derived.Test.YtlaoookdegmnnaaGreatDoorHpDoc1
import Derived.Shelf.Spec.SlicesInsertGrow
import Derived.Test.YtlaoookdegmnnaaGreatDoorAmEff
import Derived.Test.YtlaoookdegmnnaaGreatDoorHpComp
import Derived.Test.YtlaoookdegmnnaaGreatDoorCards
import Derived.Test.YtlaoookdegmnnaaGreatDoorTie
import Derived.ProofKit
import Derived.LaidMore
import Derived.OpenShut
import Derived.Stop.Joined
import Derived.SevenTiedAt
import Derived.KernelRfl
set_option maxRecDepth 100000
set_option linter.unusedSimpArgs false
set_option linter.unusedVariables false
namespace Go.Proofs.YtlaoookdegmnnaaGreatDoor
open Go Go.AM Go.Sort
def ET:ErrT:=⟨[(251,2),(352,2),(349,3)],229⟩
def XB:Calls':=orX (nowhereG A0 GA (fun f=>Nat.beq f 17)) (orX (errX ET A0 GA (fun n=>Nat.beq n 67)) XK)
theorem xb_ok:GSound Tryz.prog M0 XB:=orX_sound (nowhereG_sound ga_ok globOk _ rfl) (orX_sound (errX_sound ga_ok globInp _ rfl) xk_ok)
theorem same0:sameTo A0 A0 A0.next=true:=by kernel_rfl
def ErrIs (A:St) (v:AV) (e:Int):Prop:=∃ v' S B,errS ET A 10 v A0=some (v',S)∧GA 67 [v'] S=some (.int .i64 e,B)
def fstOf:Option (AV × St)→Option AV
 | some (v,_)=>some v
 | none=>none
theorem fstOf_some {o:Option (AV × St)} {v:AV} (h:fstOf o=some v):∃ B,o=some (v,B):=by
 cases o with
 | none=>cases h
 | some x=>cases h;exact⟨x.2,rfl⟩
def SN (e:Int):St:=A0.push (.cells [.int .i64 e] [⟨0,0,1,1⟩] 1 true)
def pN:AV:=.iface 229 (.ptr (some (1,0,0)))
theorem code_nil:fstOf (GA 67 [.nilIface] A0)=some (.int .i64 0):=by kernel_rfl
theorem code_num (e:Int):fstOf (GA 67 [pN] (SN e))=some (.int .i64 e):=by kernel_rfl
def S1place (i1:Int) (e:Int):St:=(SN e).push (.cells [pN,.int .i64 i1] [⟨0,0,2,1⟩] 1 true)
theorem code1place (i1:Int) (e:Int):fstOf (GA 67 [.iface 251 (.ptr (some (2,0,0)))] (S1place i1 e))=some (.int .i64 e):=by kernel_rfl
def S1name (s1:List UInt8) (e:Int):St:=(SN e).push (.cells [pN,.str s1] [⟨0,0,2,1⟩] 1 true)
theorem code1name (s1:List UInt8) (e:Int):fstOf (GA 67 [.iface 352 (.ptr (some (2,0,0)))] (S1name s1 e))=some (.int .i64 e):=by kernel_rfl
def S1limit (i1 j1:Int) (e:Int):St:=(SN e).push (.cells [pN,.int .i64 i1,.int .i64 j1] [⟨0,0,3,1⟩] 1 true)
theorem code1limit (i1 j1:Int) (e:Int):fstOf (GA 67 [.iface 349 (.ptr (some (2,0,0)))] (S1limit i1 j1 e))=some (.int .i64 e):=by kernel_rfl
def S2placeplace (i1:Int) (i2:Int) (e:Int):St:=(S1place i1 e).push (.cells [.iface 251 (.ptr (some (2,0,0))),.int .i64 i2] [⟨0,0,2,1⟩] 1 true)
theorem code2placeplace (i1:Int) (i2:Int) (e:Int):fstOf (GA 67 [.iface 251 (.ptr (some (3,0,0)))] (S2placeplace i1 i2 e))=some (.int .i64 e):=by kernel_rfl
def S2placename (i1:Int) (s2:List UInt8) (e:Int):St:=(S1place i1 e).push (.cells [.iface 251 (.ptr (some (2,0,0))),.str s2] [⟨0,0,2,1⟩] 1 true)
theorem code2placename (i1:Int) (s2:List UInt8) (e:Int):fstOf (GA 67 [.iface 352 (.ptr (some (3,0,0)))] (S2placename i1 s2 e))=some (.int .i64 e):=by kernel_rfl
def S2placelimit (i1:Int) (i2 j2:Int) (e:Int):St:=(S1place i1 e).push (.cells [.iface 251 (.ptr (some (2,0,0))),.int .i64 i2,.int .i64 j2] [⟨0,0,3,1⟩] 1 true)
theorem code2placelimit (i1:Int) (i2 j2:Int) (e:Int):fstOf (GA 67 [.iface 349 (.ptr (some (3,0,0)))] (S2placelimit i1 i2 j2 e))=some (.int .i64 e):=by kernel_rfl
def S2nameplace (s1:List UInt8) (i2:Int) (e:Int):St:=(S1name s1 e).push (.cells [.iface 352 (.ptr (some (2,0,0))),.int .i64 i2] [⟨0,0,2,1⟩] 1 true)
theorem code2nameplace (s1:List UInt8) (i2:Int) (e:Int):fstOf (GA 67 [.iface 251 (.ptr (some (3,0,0)))] (S2nameplace s1 i2 e))=some (.int .i64 e):=by kernel_rfl
def S2namename (s1:List UInt8) (s2:List UInt8) (e:Int):St:=(S1name s1 e).push (.cells [.iface 352 (.ptr (some (2,0,0))),.str s2] [⟨0,0,2,1⟩] 1 true)
theorem code2namename (s1:List UInt8) (s2:List UInt8) (e:Int):fstOf (GA 67 [.iface 352 (.ptr (some (3,0,0)))] (S2namename s1 s2 e))=some (.int .i64 e):=by kernel_rfl
def S2namelimit (s1:List UInt8) (i2 j2:Int) (e:Int):St:=(S1name s1 e).push (.cells [.iface 352 (.ptr (some (2,0,0))),.int .i64 i2,.int .i64 j2] [⟨0,0,3,1⟩] 1 true)
theorem code2namelimit (s1:List UInt8) (i2 j2:Int) (e:Int):fstOf (GA 67 [.iface 349 (.ptr (some (3,0,0)))] (S2namelimit s1 i2 j2 e))=some (.int .i64 e):=by kernel_rfl
def S2limitplace (i1 j1:Int) (i2:Int) (e:Int):St:=(S1limit i1 j1 e).push (.cells [.iface 349 (.ptr (some (2,0,0))),.int .i64 i2] [⟨0,0,2,1⟩] 1 true)
theorem code2limitplace (i1 j1:Int) (i2:Int) (e:Int):fstOf (GA 67 [.iface 251 (.ptr (some (3,0,0)))] (S2limitplace i1 j1 i2 e))=some (.int .i64 e):=by kernel_rfl
def S2limitname (i1 j1:Int) (s2:List UInt8) (e:Int):St:=(S1limit i1 j1 e).push (.cells [.iface 349 (.ptr (some (2,0,0))),.str s2] [⟨0,0,2,1⟩] 1 true)
theorem code2limitname (i1 j1:Int) (s2:List UInt8) (e:Int):fstOf (GA 67 [.iface 352 (.ptr (some (3,0,0)))] (S2limitname i1 j1 s2 e))=some (.int .i64 e):=by kernel_rfl
def S2limitlimit (i1 j1:Int) (i2 j2:Int) (e:Int):St:=(S1limit i1 j1 e).push (.cells [.iface 349 (.ptr (some (2,0,0))),.int .i64 i2,.int .i64 j2] [⟨0,0,3,1⟩] 1 true)
theorem code2limitlimit (i1 j1:Int) (i2 j2:Int) (e:Int):fstOf (GA 67 [.iface 349 (.ptr (some (3,0,0)))] (S2limitlimit i1 j1 i2 j2 e))=some (.int .i64 e):=by kernel_rfl
theorem errIs_of {A:St} {k:Nat} {v:AV} {e:Int} (hk:k≤2) (h:ErrSh 0 A k v e):ErrIs A v e:=by
 have num:∀ {v:AV},ErrSh 0 A 0 v e→∃ f,v=.iface 229 (.ptr (some (f,0,0)))∧A.cells (f,0,0) 1=some [.int .i64 e]:=fun h=>by
  cases h with
  | num hl hf h he=>exact⟨_,rfl,h⟩
 match k,hk with
 | 0,_=>
  obtain⟨f,rfl,hc⟩:=num h
  obtain⟨B,hB⟩:=fstOf_some (code_num e)
  refine⟨_,_,B,?_,hB⟩
  simp only[errS,ET,elemP,Nat.beq,cond_false,cond_true,hc]
  rfl
 | 1,_=>
  cases h with
  | place hl hf h1 hv=>
   obtain⟨g,he,hc⟩:=num hv
   rw[he] at h1
   obtain⟨B,hB⟩:=fstOf_some (code1place _ e)
   refine⟨_,_,B,?_,hB⟩
   simp only[errS,ET,elemP,Nat.beq,cond_false,cond_true,h1,hc]
   rfl
  | name hl hf h1 hv=>
   obtain⟨g,he,hc⟩:=num hv
   rw[he] at h1
   obtain⟨B,hB⟩:=fstOf_some (code1name _ e)
   refine⟨_,_,B,?_,hB⟩
   simp only[errS,ET,elemP,Nat.beq,cond_false,cond_true,h1,hc]
   rfl
  | limit hl hf h1 hv=>
   obtain⟨g,he,hc⟩:=num hv
   rw[he] at h1
   obtain⟨B,hB⟩:=fstOf_some (code1limit _ _ e)
   refine⟨_,_,B,?_,hB⟩
   simp only[errS,ET,elemP,Nat.beq,cond_false,cond_true,h1,hc]
   rfl
 | 2,_=>
  cases h with
  | place hl hf h2 hv2=>
   cases hv2 with
   | place hl hf h1 hv=>
    obtain⟨g,he,hc⟩:=num hv
    rw[he] at h1
    obtain⟨B,hB⟩:=fstOf_some (code2placeplace _ _ e)
    refine⟨_,_,B,?_,hB⟩
    simp only[errS,ET,elemP,Nat.beq,cond_false,cond_true,h1,h2,hc]
    rfl
   | name hl hf h1 hv=>
    obtain⟨g,he,hc⟩:=num hv
    rw[he] at h1
    obtain⟨B,hB⟩:=fstOf_some (code2nameplace _ _ e)
    refine⟨_,_,B,?_,hB⟩
    simp only[errS,ET,elemP,Nat.beq,cond_false,cond_true,h1,h2,hc]
    rfl
   | limit hl hf h1 hv=>
    obtain⟨g,he,hc⟩:=num hv
    rw[he] at h1
    obtain⟨B,hB⟩:=fstOf_some (code2limitplace _ _ _ e)
    refine⟨_,_,B,?_,hB⟩
    simp only[errS,ET,elemP,Nat.beq,cond_false,cond_true,h1,h2,hc]
    rfl
  | name hl hf h2 hv2=>
   cases hv2 with
   | place hl hf h1 hv=>
    obtain⟨g,he,hc⟩:=num hv
    rw[he] at h1
    obtain⟨B,hB⟩:=fstOf_some (code2placename _ _ e)
    refine⟨_,_,B,?_,hB⟩
    simp only[errS,ET,elemP,Nat.beq,cond_false,cond_true,h1,h2,hc]
    rfl
   | name hl hf h1 hv=>
    obtain⟨g,he,hc⟩:=num hv
    rw[he] at h1
    obtain⟨B,hB⟩:=fstOf_some (code2namename _ _ e)
    refine⟨_,_,B,?_,hB⟩
    simp only[errS,ET,elemP,Nat.beq,cond_false,cond_true,h1,h2,hc]
    rfl
   | limit hl hf h1 hv=>
    obtain⟨g,he,hc⟩:=num hv
    rw[he] at h1
    obtain⟨B,hB⟩:=fstOf_some (code2limitname _ _ _ e)
    refine⟨_,_,B,?_,hB⟩
    simp only[errS,ET,elemP,Nat.beq,cond_false,cond_true,h1,h2,hc]
    rfl
  | limit hl hf h2 hv2=>
   cases hv2 with
   | place hl hf h1 hv=>
    obtain⟨g,he,hc⟩:=num hv
    rw[he] at h1
    obtain⟨B,hB⟩:=fstOf_some (code2placelimit _ _ _ e)
    refine⟨_,_,B,?_,hB⟩
    simp only[errS,ET,elemP,Nat.beq,cond_false,cond_true,h1,h2,hc]
    rfl
   | name hl hf h1 hv=>
    obtain⟨g,he,hc⟩:=num hv
    rw[he] at h1
    obtain⟨B,hB⟩:=fstOf_some (code2namelimit _ _ _ e)
    refine⟨_,_,B,?_,hB⟩
    simp only[errS,ET,elemP,Nat.beq,cond_false,cond_true,h1,h2,hc]
    rfl
   | limit hl hf h1 hv=>
    obtain⟨g,he,hc⟩:=num hv
    rw[he] at h1
    obtain⟨B,hB⟩:=fstOf_some (code2limitlimit _ _ _ _ e)
    refine⟨_,_,B,?_,hB⟩
    simp only[errS,ET,elemP,Nat.beq,cond_false,cond_true,h1,h2,hc]
    rfl
theorem errIs_nil (A:St):ErrIs A .nilIface 0:=by
 obtain⟨B,hB⟩:=fstOf_some code_nil
 exact⟨_,_,B,rfl,hB⟩
theorem errIs_ev {A:St} {v:AV} {e:Int} (h:EV A v e):ErrIs A v e:=by
 rcases h with ⟨rfl,rfl⟩|⟨_,k,t,u,hk,rfl,h⟩
 ·exact errIs_nil A
 ·exact errIs_of hk h
theorem xb_code {A:St} (hs:∀ f,f<A0.next→A.get f=A0.get f) {v:AV} {e:Int} (h:EV A v e):XB 67 [v] A=some (.int .i64 e,A):=by
 obtain⟨v',S,B,h1,h2⟩:=errIs_ev h
 have h3:errX ET A0 GA (fun n=>Nat.beq n 67) 67 [v] A=some (.int .i64 e,A):=errX_of rfl rfl hs same0 h1 h2 rfl
 show (match nowhereG A0 GA (fun f=>Nat.beq f 17) 67 [v] A with|some r=>some r|none=>(match errX ET A0 GA (fun n=>Nat.beq n 67) 67 [v] A with|some r=>some r|none=>XK 67 [v] A))=_
 rw[show nowhereG A0 GA (fun f=>Nat.beq f 17) 67 [v] A=none from rfl,h3]
theorem xb_awake {A:St} (hs:∀ f,f<A0.next→A.get f=A0.get f):XB 17 [] A=some (.bool true,A):=by
 obtain⟨B,hB⟩:∃ B,GA 17 [] A0=some (.bool true,B):=by
  have h:=awake_run
  unfold isT at h
  split at h
  ·rename_i B hB;exact⟨B,hB⟩
  ·cases h
 have h3:=nowhereG_of (fs:=fun f=>Nat.beq f 17) (f:=17) (args:=[]) (A:=A) rfl rfl hs same0 hB rfl
 show (match nowhereG A0 GA (fun f=>Nat.beq f 17) 17 [] A with|some r=>some r|none=>_)=_
 rw[h3]
end Go.Proofs.YtlaoookdegmnnaaGreatDoor
namespace Go.AM
open Go.Sort Go.Proofs Go.WideElems

def keysInt:List (AV × AV × Nat)→Option (List Int)
 | []=>some []
 | (.int .i64 s,_,_)::l=>match keysInt l with|some r=>some (s::r)|none=>none
 | _::_=>none
theorem keysInt_spec:∀ {es:List (AV × AV × Nat)} {ss:List Int},keysInt es=some ss→es.map (·.1)=ss.map (AV.int .i64)
 | [],ss,h=>by cases h;rfl
 | (k,v,b)::l,ss,h=>by
  unfold keysInt at h
  split at h
  ·rename_i heq;cases heq
  ·rename_i heq
   cases heq
   split at h
   ·rename_i r hr
    cases h
    simp[keysInt_spec hr]
   ·cases h
  ·cases h
section
variable {P:Program} {F:Fr} {m:Mu} {A B:St} {w:World}
end
section
variable {F:Fr} {m m':Mu} {A B:St} {w:World}
theorem Rel.adoptV (R:Rel F m A w) (R':Rel F m' B w) (hmm:m.le m') (hx:∀ f,f<A.next→B.get f=A.get f) {f v o n cap sz:Nat} {all:List AV} {vers:List Ver} {nv:Nat} {y:Ver} (hf:A.next≤f) (hg:B.get f=some (.cells all vers nv false)) (hv:findVer v vers=some y)
  (h1:y.lo≤o) (h2:o+n*sz≤y.hi) {l:Loc} (hl:m' f v=some l) {ys:List Value} (hys:cvos m ((all.drop o).take (n*sz))=some ys) (hn:n≤cap) (hcap:(o - y.lo)+cap*sz≤l.cap*l.sz) :
  Rel F (m.add A.next 1 ⟨l.cb,l.co+(o - y.lo),0,cap,sz⟩) (A.push (.cells ((all.drop o).take (n*sz)) [⟨1,0,((all.drop o).take (n*sz)).length,sz⟩] 2 false)) w∧m.le (m.add A.next 1 ⟨l.cb,l.co+(o - y.lo),0,cap,sz⟩):=by
 obtain⟨hy1,hy2⟩:=qwq hv
 obtain⟨l',cr⟩:=(R'.got f _ hg).1 y hy1
 have:l'=l:=by have:=cr.mu;rw[hy2,hl] at this;cases this;rfl
 subst this
 have hrw:=cr.rw rfl
 have hRwB:B.Rw f:=⟨_,hg,rfl⟩
 have hdom:=R'.dom f v l' hl
 have hnone:∀ u,m A.next u=none:=fun u=>by
  cases h:m A.next u with
  | none=>rfl
  | some k=>exact absurd (R.dom _ _ _ h).1 (by omega)
 have hle:=Mu.le_add ⟨l'.cb,l'.co+(o - y.lo),0,cap,sz⟩ (hnone 1)
 have hfar:∀ g u k,m g u=some k→k.cb≠l'.cb:=fun g u k h=>by
  have h3:=hmm.loc _ _ _ h
  have hlt:=(R.dom _ _ _ h).1
  exact fun e=>R'.apart f v l' g u k hl h3 (by omega) hRwB e.symm
 have hof:∀ g' u k,(m.add A.next 1 ⟨l'.cb,l'.co+(o - y.lo),0,cap,sz⟩) g' u=some k→(g'=A.next∧u=1∧k=⟨l'.cb,l'.co+(o - y.lo),0,cap,sz⟩)∨(g'≠A.next∧m g' u=some k):=by
  intro g' u k h
  unfold Mu.add at h
  dsimp only at h
  split at h
  ·rename_i c;cases h;exact .inl ⟨c.1,c.2,rfl⟩
  ·refine .inr ⟨?_,h⟩
   intro hg';subst hg';rw[hnone] at h;cases h
 have hhi:=cr.hi
 have hlen:((all.drop o).take (n*sz)).length=n*sz:=by rw[List.length_take,List.length_drop];omega
 refine⟨⟨fun f0 v0 l0 h=>?_,fun f0 b h=>?_,R.keep,R.rest,fun f0 v0 l0 g' u k h1 h2 hne hf=>?_,fun f0 v0 l0 h1 h2=>?_,fun f0 v0 l0 u k h1 h2 he=>?_,fun f0 l0 h1 h2=>?_,R.frm⟩,hle⟩
 ·rcases hof f0 v0 l0 h with ⟨rfl,rfl,rfl⟩|⟨_,h⟩
  ·exact⟨Nat.lt_succ_self _,hdom.2⟩
  ·have:=R.dom f0 v0 l0 h;exact⟨by simp;omega,this.2⟩
 ·rw[St.get_push] at h
  split at h
  ·rename_i hf0
   subst hf0
   cases h
   refine⟨fun x hx=>?_,fun u hu=>?_⟩
   ·simp only[List.mem_singleton] at hx;subst hx
    refine⟨⟨l'.cb,l'.co+(o - y.lo),0,cap,sz⟩,by simp[Mu.add],rfl,rfl,Nat.le_refl _,fun i a _ hi ha=>?_,fun _=>⟨hrw.1,?_,fun j hj=>?_⟩⟩
    ·obtain⟨z,hz,_⟩:=cvos_get hys ha
     have hi':i<n*sz:=by rw[hlen] at hi;exact hi
     rw[List.getElem?_take,if_pos hi',List.getElem?_drop] at ha
     obtain⟨z2,hz2,hw⟩:=cr.cell (o+i) a (by omega) (by omega) ha
     rw[quq hmm _ _ hz] at hz2
     cases hz2
     refine⟨z,quq hle _ _ hz,?_⟩
     show w.cell? ⟨l'.cb,l'.co+(o - y.lo)+(i - 0),none⟩=some z
     rw[show l'.co+(o - y.lo)+(i - 0)=l'.co+(o+i - y.lo) by omega]
     exact hw
    ·show _ - 0≤cap*sz
     rw[hlen]
     have:=Nat.mul_le_mul_right sz hn
     omega
    ·have hj:j<cap*sz:=hj
     have:=hrw.2.2 (o - y.lo+j) (by omega)
     show (w.cell? ⟨l'.cb,l'.co+(o - y.lo)+j,none⟩).isSome=true∧w.frozen? ⟨l'.cb,l'.co+(o - y.lo)+j,none⟩=false
     rw[show l'.co+(o - y.lo)+j=l'.co+(o - y.lo+j) by omega]
     exact this
   ·simp only[Mu.add]
    rw[if_neg (by rintro ⟨_,h⟩;omega)]
    exact hnone u
  ·rename_i hf0
   exact blkR_mono hle (fun u hu=>by simp only[Mu.add];rw[if_neg (by rintro ⟨q,_⟩;exact hf0 q)];exact hu) (R.got f0 b h) (fun _ _ _=>rfl)
 ·have hrw':∀ g',g'≠A.next→(A.push (.cells ((all.drop o).take (n*sz)) [⟨1,0,((all.drop o).take (n*sz)).length,sz⟩] 2 false)).Rw g'→A.Rw g':=fun g' hg' ⟨b,hb,hr⟩=>by
   rw[St.get_push,if_neg hg'] at hb;exact⟨b,hb,hr⟩
  rcases hof f0 v0 l0 h1 with ⟨rfl,rfl,rfl⟩|⟨n1,h1⟩<;>rcases hof g' u k h2 with ⟨rfl,rfl,rfl⟩|⟨n2,h2⟩
  ·exact absurd rfl hne
  ·exact fun h=>hfar _ _ _ h2 h.symm
  ·exact hfar _ _ _ h1
  ·exact R.apart f0 v0 l0 g' u k h1 h2 hne (hrw' _ n1 hf)
 ·rcases hof f0 v0 l0 h1 with ⟨rfl,rfl,rfl⟩|⟨n1,h1⟩
  ·exact (R'.unf f v l' hl hRwB).up (by decide)
  ·refine R.unf f0 v0 l0 h1 ?_
   obtain⟨b,hb,hr⟩:=h2
   rw[St.get_push,if_neg n1] at hb
   exact⟨b,hb,hr⟩
 ·rcases hof f0 v0 l0 h1 with ⟨rfl,rfl,rfl⟩|⟨n1,h1⟩<;>rcases hof _ u k h2 with ⟨e,rfl,rfl⟩|⟨n2,h2⟩
  ·rfl
  ·exact absurd rfl n2
  ·exact absurd e n1
  ·exact R.same f0 v0 l0 u k h1 h2 he
 ·rcases hof f0 0 l0 h1 with ⟨_,h,_⟩|⟨n1,h1⟩
  ·cases h
  ·obtain⟨b,hb,hr⟩:=h2
   rw[St.get_push,if_neg n1] at hb
   exact R.orig f0 l0 h1 ⟨b,hb,hr⟩
theorem adopt_slice (R':Rel F m' B w) {w0:World} (R0:Rel F m A w0) (hmm:m.le m') (hx:∀ f,f<A.next→B.get f=A.get f) {s:AV} {cs:List AV} {sz:Nat} (hs:Own A.next B sz s cs) (hz:sz≠0) (hne:s.slen≠0) {ys:List Value} (hys:cvos m cs=some ys) {c:Value} (hc:cvo m' s=some c) :
  ∃ m'',m.le m''∧Rel F m'' (A.makeV cs sz 1).2 w∧cvo m'' (.slice (some (A.next,1,0)) 0 s.slen 0 sz)=some c:=by
 have R:=canon0 R0 R' hmm hx
 cases hs with
 | nil=>exact absurd rfl hne
 | @mem f v o po len cap q all vers nv y hlo hf hg hv h1 h2 h3 hq=>
  simp only[AV.slen] at hne ⊢
  obtain⟨hy1,hy2⟩:=qwq hv
  obtain⟨l,cr⟩:=(R'.got f _ hg).1 y hy1
  have hl:m' f v=some l:=by rw[←hy2];exact cr.mu
  have hrw:=cr.rw rfl
  have hls:=cr.sz
  have hll:=cr.lo
  have hmul:0<len*sz:=Nat.mul_pos (by omega) (by omega)
  rcases hq with ⟨rfl,hle,hfit⟩|⟨rfl,hq0⟩
  ·-- a capacity that is known
   simp only[cvo] at hc
   rw[if_pos hle] at hc
   simp only[Option.map_eq_some_iff] at hc
   obtain⟨ad,hp,rfl⟩:=hc
   unfold plc at hp
   simp only at hp
   rw[hl] at hp
   simp only at hp
   rw[if_pos (by omega)] at hp
   cases hp
   obtain⟨g1,g2⟩:=R.adoptV R' hmm hx (cap:=cap) hlo hg hv h1 h2 hl hys hle (by omega)
   refine⟨_,g2,g1,?_⟩
   obtain⟨sz',rfl⟩:∃ z,sz=z+1:=⟨sz - 1,by omega⟩
   simp only[cvo,Mu.add]
   simp only[and_self,if_true]
   rw[if_pos ⟨by simp,by omega,trivial⟩]
   unfold plc
   simp[Mu.add,hll]
   try omega
  ·-- one that is not
   obtain⟨q',rfl⟩:∃ z,q=z+1:=⟨q - 1,by omega⟩
   simp only[cvo] at hc
   rw[hl] at hc
   simp only at hc
   split at hc
   rotate_left
   ·cases hc
   rename_i hcond
   obtain⟨e1,e2,e3⟩:=hcond
   have hcl:l.cap≠cap:=by omega
   rw[if_neg hcl] at hc
   simp only[Option.map_eq_some_iff] at hc
   obtain⟨ad,hp,rfl⟩:=hc
   unfold plc at hp
   simp only at hp
   rw[hl] at hp
   simp only at hp
   rw[if_pos (by omega)] at hp
   cases hp
   have hroom:(o - y.lo)+(l.cap - cap)*(q'+1)≤l.cap*l.sz:=by
    rw[←e1,hll,e3,Nat.add_sub_cancel_left,←Nat.add_mul]
    exact Nat.mul_le_mul_right _ (by omega)
   obtain⟨g1,g2⟩:=R.adoptV R' hmm hx (cap:=l.cap - cap) hlo hg hv h1 h2 hl hys (by omega) hroom
   refine⟨_,g2,g1,?_⟩
   simp only[cvo,Mu.add]
   simp only[and_self,if_true]
   rw[if_pos ⟨by simp,by omega,trivial⟩]
   unfold plc
   simp[Mu.add,hll]
   try omega
end
abbrev Ents:=List (AV × AV × Nat)
theorem range_of {E:Env} {A:St} {x:Operand} {g c:Nat} {es:Ents} (hx:ev E x=.map (some g)) (hg:A.get g=some (.map es c)):effOf E A (.range true x)=some (.ptr (some (A.next,0,0)),A.push (.iter (.map (some g) c [] c))):=by
 unfold effOf
 simp only[hx,hg]
theorem stampAt_of:∀ {es:Ents} {k v:AV} {b:Nat},(es.map (fun e=>e.2.2)).Nodup→(k,v,b)∈es→stampAt b es=some (k,v)
 | [],_,_,_,_,h=>by simp at h
 | (k',v',b')::es,k,v,b,hn,h=>by
  rw[List.map_cons,List.nodup_cons] at hn
  unfold stampAt
  rcases List.mem_cons.1 h with h|h
  ·cases h;simp
  ·have:Nat.beq b' b=false:=by
    cases hb:Nat.beq b' b with
    | false=>rfl
    | true=>
     have:=Nat.eq_of_beq_eq_true hb
     exact absurd (List.mem_map.2 ⟨_,h,this.symm⟩) hn.1
   rw[this]
   exact stampAt_of hn.2 h
theorem entry_of {E:Env} {A:St} {x:Operand} {it g c since b:Nat} {seen:List Nat} {es:Ents} {k v:AV} (hx:ev E x=.ptr (some (it,0,0))) (hi:A.get it=some (.iter (.map (some g) since (seen++[b]) c))) (hg:A.get g=some (.map es c)) (hs:stampAt b es=some (k,v)) :
  readOf E A (.entry x)=some (.tuple [k,v]):=by
 unfold readOf
 simp only[hx,hi,hg,Nat.beq_refl,cond_true,List.getLast?_concat,hs]
theorem oldOf_in {es:Ents} {c:Nat} {seen:List Nat} {x:AV × AV × Nat} (h:x∈oldOf c seen es):x∈es∧x.2.2∉seen:=by
 unfold oldOf at h
 have h2:=List.mem_filter.1 (List.mem_filter.1 h).1
 exact⟨h2.1,by simpa using h2.2⟩
theorem oldOf_nil {es:Ents} {c:Nat} {seen:List Nat} (hlt:∀ e∈es,e.2.2<c) (h:oldOf c seen es=[]):∀ e∈es,e.2.2∈seen:=by
 intro e he
 refine Classical.byContradiction fun hn=>?_
 have:e∈oldOf c seen es:=by
  unfold oldOf
  exact List.mem_filter.2 ⟨List.mem_filter.2 ⟨he,by simpa using hn⟩,by simpa using hlt e he⟩
 rw[h] at this
 cases this
theorem newOf_nil {es:Ents} {c:Nat} {seen:List Nat} (hlt:∀ e∈es,e.2.2<c):newOf' c seen es=[]:=by
 unfold newOf'
 rw[List.filter_eq_nil_iff]
 intro a ha
 have:=hlt a (List.mem_filter.1 ha).1
 simp
 omega
theorem oldOf_less {es:Ents} {c:Nat} {seen:List Nat} {x:AV × AV × Nat} (h:x∈oldOf c seen es):(oldOf c (seen++[x.2.2]) es).length<(oldOf c seen es).length:=by
 have he:oldOf c (seen++[x.2.2]) es=(oldOf c seen es).filter (fun e=>!(e.2.2 == x.2.2)):=by
  unfold oldOf
  rw[List.filter_filter,List.filter_filter,List.filter_filter]
  congr 1
  funext e
  cases h1:seen.contains e.2.2<;>cases h2:(e.2.2 == x.2.2)<;>simp_all
 rw[he]
 have:=List.length_filter_lt_length_iff_exists (l:=oldOf c seen es) (p:=fun e=>!(e.2.2 == x.2.2))
 exact this.2 ⟨x,h,by simp⟩
def keyI:AV→Int
 | .int _ i=>i
 | _=>0
theorem keysInt_keyI {es:Ents} {ks:List Int} (h:keysInt es=some ks):ks=es.map (fun e=>keyI e.1)∧∀ e∈es,e.1=.int .i64 (keyI e.1):=by
 have h1:=keysInt_spec h
 refine⟨?_,fun e he=>?_⟩
 ·have:=congrArg (List.map keyI) h1
  rw[List.map_map,List.map_map] at this
  have h2:List.map (keyI∘AV.int .i64) ks=ks:=by
   conv=>rhs;rw[←List.map_id ks]
   rfl
  rw[h2] at this
  exact this.symm
 ·have:e.1∈es.map (·.1):=List.mem_map.2 ⟨e,he,rfl⟩
  rw[h1] at this
  obtain⟨i,_,hi⟩:=List.mem_map.1 this
  rw[←hi]
  rfl
theorem sortI_perm {a c:List Int} (h:List.Perm a c):sortB leI a=sortB leI c:=by rw[←sortI_eq (List.Perm.refl a),sortI_eq h]
theorem met_all {S es:Ents} (hS:∀ e∈S,e∈es) (hn:(S.map (fun e=>e.2.2)).Nodup) (he:(es.map (fun e=>e.2.2)).Nodup) (hall:∀ e∈es,e.2.2∈S.map (fun e=>e.2.2)):List.Perm (S.map (fun e=>keyI e.1)) (es.map (fun e=>keyI e.1)):=by
 have nodup_of:∀ {l:Ents},(l.map (fun e=>e.2.2)).Nodup→l.Nodup:=fun {l} h=>by
  rw[List.Nodup,List.pairwise_map] at h
  exact h.imp fun hne hab=>hne (by rw[hab])
 have inj:∀ {a b:AV × AV × Nat},a∈es→b∈es→a.2.2=b.2.2→a=b:=fun {a b} ha hb hab=>by
  have h1:=stampAt_of he (k:=a.1) (v:=a.2.1) (b:=a.2.2) ha
  have h2:=stampAt_of he (k:=b.1) (v:=b.2.1) (b:=b.2.2) hb
  rw[hab,h2] at h1
  simp only[Option.some.injEq,Prod.mk.injEq] at h1
  obtain⟨h3,h4⟩:=h1
  obtain⟨a1,a2,a3⟩:=a
  obtain⟨b1,b2,b3⟩:=b
  simp only at *
  rw[h3,h4,hab]
 have hsub:∀ e∈es,e∈S:=fun e h=>by
  obtain⟨s,hs,hse⟩:=List.mem_map.1 (hall e h)
  rw[←inj (hS s hs) h hse]
  exact hs
 have:List.Perm S es:=(List.perm_ext_iff_of_nodup (nodup_of hn) (nodup_of he)).2 fun x=>⟨hS x,hsub x⟩
 exact this.map _
theorem met_len {S es:Ents} (hS:∀ e∈S,e∈es) (hn:(S.map (fun e=>e.2.2)).Nodup) (he:(es.map (fun e=>e.2.2)).Nodup):S.length≤es.length:=by
 have nodup_of:∀ {l:Ents},(l.map (fun e=>e.2.2)).Nodup→l.Nodup:=fun {l} h=>by
  rw[List.Nodup,List.pairwise_map] at h
  exact h.imp fun hne hab=>hne (by rw[hab])
 clear he
 have hSn:=nodup_of hn
 clear hn
 induction S generalizing es with
 | nil=>exact Nat.zero_le _
 | cons x S ih=>
  obtain⟨hx,hSn⟩:=List.nodup_cons.1 hSn
  obtain⟨a,c,rfl⟩:=List.append_of_mem (hS x List.mem_cons_self)
  have:=ih (es:=a++c) (fun e he=>by
   have h1:=hS e (List.mem_cons_of_mem _ he)
   rcases List.mem_append.1 h1 with h1|h1
   ·exact List.mem_append_left _ h1
   ·rcases List.mem_cons.1 h1 with rfl|h1
    ·exact absurd he hx
    ·exact List.mem_append_right _ h1) hSn
  simp only[List.length_cons,List.length_append] at this ⊢
  omega
def segsX:List AV→St→Option (AV × St)
 | [.ptr (some (p,0,0))],A=>match A.cells (p,0,0) 4 with
  | some [_,.map (some f),_,_]=>match A.get f with
   | some (.map es clock)=>match keysInt es with
    | some ks=>bif Nat.blt p A.next&&(Nat.blt f A.next&&(Nat.ble es.length 1000000&&stampsOk clock es)) then
      (match sortB leI ks with
      | []=>some (.slice none 0 0 0 0,A)
      | x::l=>some (.slice (some (A.next,1,0)) 0 (l.length+1) 0 1,(A.makeV ((x::l).map (.int .i64)) 1 1).2)) else none
    | none=>none
   | _=>none
  | _=>none
 | _,_=>none
end Go.AM
namespace Go.Proofs.YtlaoookdegmnnaaGreatDoor
open Go Go.AM
theorem has84:Has Tryz.prog 84 a84:=⟨_,Tryz.func84,c84,by unfold Tryz.f84;decide⟩
theorem sort_spec {lo:Nat} {A:St} {s:AV} {zs:List Int} (h:AM.Own lo A 1 s (zs.map (AV.int .i64))) (hl:zs.length<2^40) :
  Ev D0 G0 fnsK XK 172 [s] A fun r B=>r=.tuple []∧AM.Own lo B 1 s ((sortB Go.AM.leI zs).map (AV.int .i64))∧But A B s:=by
 obtain⟨B,h1,h2,h3⟩:=h.sorted (dec:=intsOf) (enc:=AV.int .i64) (le:=Go.AM.leI) intsOf_map (fun _=>rfl) (by omega)
 exact Ev.ext (B:=B) (r:=.tuple []) rfl h1 ⟨rfl,h2,h3⟩
theorem segs_any {A:St} {p f c:Nat} {a0 a2 a3:AV} {es:Ents} {ks:List Int} (hc:A.cells (p,0,0) 4=some [a0,.map (some f),a2,a3]) (hp:p<A.next) (hg:A.get f=some (.map es c)) (hfl:f<A.next) (hk:keysInt es=some ks) (hl:es.length≤1000000) (hn:(es.map (fun e=>e.2.2)).Nodup) (hlt:∀ e∈es,e.2.2<c) :
  EvS Tryz.prog M0 84 [.ptr (some (p,0,0))] A fun r B=>A.Ext B∧AM.Own A.next B 1 r ((sortB Go.AM.leI ks).map (AV.int .i64))∧(ks=[]→r=.slice none 0 0 0 0):=by
 refine EvS.fnM baseK has84 ⟨by simp[a84],by decide⟩ fun n=>?_
 unfold a84
 dsimp only
 have hks:=keysInt_keyI hk
 have hmf:loadV A 1 false (.ptr (some (p,0,1)))=some (.map (some f)):=cells_field hc (o:=1) rfl
 refine MW.seqM (MW.wp (D:=D0) baseK ?_)
 simp
 refine MW.seqM (MW.wp (D:=D0) baseK ?_)
 simp[eqV,eqOf]
 refine MW.seqM (MW.wp (D:=D0) baseK ?_)
 simp
 refine MW.seqM (MW.seqM (MW.wp (D:=D0) baseK ?_))
 simp[AV.addr,hmf]
 rw[range_of (g:=f) (by simp) hg]
 simp
 have x1:A.Ext (A.push (.iter (.map (some f) c [] c))):=ext_push _ _
 have hit:(A.push (.iter (.map (some f) c [] c))).get A.next=some (.iter (.map (some f) c [] c)):=by rw[St.get_push,if_pos rfl]
 have hnx:(A.push (.iter (.map (some f) c [] c))).next=A.next+1:=rfl
 generalize A.push (.iter (.map (some f) c [] c))=A1 at *
 obtain⟨it,hitt⟩:∃ it,it=A.next:=⟨_,rfl⟩
 rw[←hitt] at hit hnx ⊢
 refine MW.blockM (MW.loopM (fun d E A'=>A.Ext A'∧Env.at E 11=.ptr (some (it,0,0))∧A.next<A'.next∧∃ S:Ents,A'.get it=some (.iter (.map (some f) c (S.map (fun e=>e.2.2)) c))∧d=(oldOf c (S.map (fun e=>e.2.2)) es).length∧(∀ e∈S,e∈es)∧(S.map (fun e=>e.2.2)).Nodup∧AM.Own (it+1) A' 1 (Env.at E 3) ((S.map (fun e=>keyI e.1)).map (AV.int .i64))∧(S=[]→Env.at E 3=.slice none 0 0 0 0)) _ ⟨x1,by simp,by omega,[],by simpa using hit,rfl,by simp,by simp,by simpa using AM.Own.nil _ _ _,by simp⟩ ?_)
 rintro d E A2 ⟨x2,e11,hn2,S,hi2,rfl,hS,hSn,ho,hS0⟩
 obtain⟨o,e3⟩:∃ o,Env.at E 3=o:=⟨_,rfl⟩
 rw[e3] at ho hS0
 have hg2:A2.get f=some (.map es c):=by rw[x2.get f hfl,hg]
 refine MW.seqM (MW.region ?_)
 refine MRun.next (f:=it) (g:=f) (by simpa using e11) hi2 hg2 ?_ (fun hover=>?_) (fun k v bs hmem=>?_)
 ·cases hes:es with
  | nil=>simp
  | cons e r=>
   have:=hlt e (by simp[hes])
   simp
   intro _ h
   omega
 ·refine MRun.ops (D:=D0) (Q:=seqM Tryz.prog M0 n _ _) baseK ?_
  simp
  refine MW.wp (D:=D0) baseK ?_
  simp
  have hall:=oldOf_nil hlt hover
  have hperm:=met_all hS hSn hn hall
  rw[←hks.1] at hperm
  have hsort:=sortI_perm hperm
  have hlen:(S.map (fun e=>keyI e.1)).length≤1000000:=by
   rw[hperm.length_eq,hks.1,List.length_map]
   exact hl
  refine MW.seqM (MW.wp (D:=D0) baseK ?_)
  simp[e3,qaq,allKnown,ho.sl.allKnown]
  refine (sort_spec ho (by omega)).mono fun r B ⟨hr,ho2,hb⟩=>?_
  subst hr
  simp
  refine MW.wp (D:=D0) baseK ?_
  rw[hsort] at ho2
  simp[e3,ho2.sl.known]
  refine⟨x2.mod (ho.but hb) (fun f hf=>by omega),ho2.mono (by omega),fun hk0=>hS0 ?_⟩
  rw[hk0] at hperm
  have:=hperm.length_eq
  simp at this
  exact this
 ·rw[newOf_nil hlt,List.append_nil] at hmem
  have hless:=oldOf_less hmem
  obtain⟨he,hns⟩:=oldOf_in hmem
  have hki:=hks.2 _ he
  simp only at hless hns hki
  have hfi:f≠it:=by omega
  obtain⟨kz,hkz⟩:∃ kz,kz=keyI k:=⟨_,rfl⟩
  have hS1:S.map (fun e=>e.2.2)++[bs]=(S++[(k,v,bs)]).map (fun e=>e.2.2):=by simp
  have hit3:(A2.put it (.iter (.map (some f) c (S.map (fun e=>e.2.2)++[bs]) c))).get it=some (.iter (.map (some f) c (S.map (fun e=>e.2.2)++[bs]) c)):=by rw[St.get_put,if_pos rfl]
  have m3:Mod (fun g=>g=it) A2 (A2.put it (.iter (.map (some f) c (S.map (fun e=>e.2.2)++[bs]) c))):=mod_put A2 it _ rfl
  have hn3:(A2.put it (.iter (.map (some f) c (S.map (fun e=>e.2.2)++[bs]) c))).next=A2.next:=rfl
  generalize A2.put it (.iter (.map (some f) c (S.map (fun e=>e.2.2)++[bs]) c))=A3 at *
  have x3:A.Ext A3:=x2.mod m3 fun g hg=>by omega
  have hg3:A3.get f=some (.map es c):=by rw[x3.get f hfl,hg]
  have ho3:AM.Own (it+1) A3 1 o ((S.map (fun e=>keyI e.1)).map (AV.int .i64)):=Own_mod ho m3 fun g hg hW=>by have:=(own_into ho hg).1;omega
  refine MRun.ops (D:=D0) (Q:=seqM Tryz.prog M0 n _ _) baseK ?_
  simp
  refine MW.wp (D:=D0) baseK ?_
  simp
  have hen:∀ (E:Env) (x:Operand),ev E x=.ptr (some (it,0,0))→readOf E A3 (.entry x)=some (.tuple [k,v]):=fun E x hx=>entry_of hx hit3 hg3 (stampAt_of hn he)
  rw[hen _ _ (by simpa using e11)]
  have xm:=qdq A3 [.int .i64 kz] 1
  have ho4:=ho3.ext xm
  have hslen:o.slen=S.length:=by have:=ho3.sl.length;simp at this;omega
  have hSl:S.length≤es.length:=by
   have h1:=met_len hS hSn hn
   exact h1
  have hone:Sl (A3.make [.int .i64 kz] 1).2 1 (.slice (some (A3.next,0,0)) 0 1 1 0) [.int .i64 kz]:=(qtq A3 (cs:=[.int .i64 kz]) (sz:=1) (n:=1) rfl (Nat.le_refl _) (len:=1) (Nat.le_refl _)).sl
  obtain⟨o2,B,k1,k2,k3,k4,k5⟩:=qpq (bytes:=8) ho4 hone (by have:=xm.next;omega) (by decide) rfl (by rw[hslen,qnq];omega) (by rw[hslen,qnq];omega)
  rw[←hkz] at hki
  simp[hki,e3,fillA,AV.isBot,AV.cells,splice,Made.value,k1,e11]
  have mB:=ho4.but k4
  have hBit:B.get it=some (.iter (.map (some f) c (S.map (fun e=>e.2.2)++[bs]) c)):=by
   have hxn:=xm.next
   rw[mB.get it (by omega) (fun h=>by omega),xm.get it (by omega),hit3]
  refine⟨_,hless,(x3.trans xm).mod mB (fun g hg=>by omega),by have:=mB.next;have:=xm.next;omega,S++[(k,v,bs)],by rw[hBit,hS1],by rw[hS1],?_,?_,?_,by simp⟩
  ·intro k' v' b' h
   rcases List.mem_append.1 h with h|h
   ·exact hS _ h
   ·rw[List.mem_singleton.1 h];exact he
  ·rw[←hS1]
   exact List.nodup_append.2 ⟨hSn,by simp,fun a ha c hc=>by simp at hc;rw[hc];intro hh;exact hns (hh ▸ ha)⟩
  ·simpa[hkz] using k3
def XSeg:Calls':=fun f args A=>bif Nat.beq f 84 then segsX args A else none
theorem cvos_ints:∀ (m:Mu) (l:List Int),cvos m (l.map (AV.int .i64))=some (l.map (Value.int .i64))
 | _,[]=>rfl
 | m,x::l=>by
  simp only[List.map_cons,cvos,cvo,cvos_ints m l]
theorem xseg_ok:GSound Tryz.prog M0 XSeg:=fun f args A r B h=>by
 unfold XSeg at h
 cases hf:Nat.beq f 84 with
 | false=>rw[hf] at h;cases h
 | true=>
  rw[hf,cond_true] at h
  rw[Nat.eq_of_beq_eq_true hf]
  clear hf
  unfold segsX at h
  split at h
  rotate_left
  ·cases h
  rename_i p
  split at h
  rotate_left
  ·cases h
  rename_i a0 fm a2 a3 hc
  split at h
  rotate_left
  ·cases h
  rename_i es clock hg
  split at h
  rotate_left
  ·cases h
  rename_i ks hk
  cases hch:Nat.blt p A.next&&(Nat.blt fm A.next&&(Nat.ble es.length 1000000&&stampsOk clock es)) with
  | false=>rw[hch] at h;cases h
  | true=>
   rw[hch,cond_true] at h
   simp only[Bool.and_eq_true,Nat.blt_eq,Nat.ble_eq] at hch
   obtain⟨q1,q2,q3,q4⟩:=hch
   obtain⟨q4,q5⟩:=stampsOk_spec q4
   have hn:(es.map (fun e=>e.2.2)).Nodup:=by
    rw[List.Nodup,List.pairwise_map]
    exact q5.imp fun h=>by omega
   obtain⟨hh,hany⟩:=segs_any hc q1 hg q2 hk q3 hn q4
   refine .inl ⟨hh,fun F m w cargs hm R ha=>?_⟩
   refine (hany F m w cargs hm R ha).mono fun e w' ⟨r',B',c,m',⟨hx,ho,he⟩,e1,hle,R',hr⟩=>?_
   split at h
   ·rename_i hs
    have hks:ks=[]:=by
     have:=(qrq Go.AM.leI ks).length_eq
     rw[hs] at this
     exact List.length_eq_zero_iff.1 this.symm
    cases h
    rw[he hks] at hr
    exact⟨c,m,e1,Mu.le_refl _,canon0 R R' hle (fun f hf=>hx.get f hf),by simpa[cvo] using hr⟩
   ·rename_i x l hs
    rw[hs] at ho
    cases h
    have hsl:=ho.sl.length
    simp at hsl
    obtain⟨m'',g1,g2,g3⟩:=adopt_slice R' R hle (fun f hf=>hx.get f hf) ho (by decide) (by omega) (cvos_ints m _) hr
    rw[←hsl] at g3
    exact⟨c,m'',e1,g1,g2,g3⟩
end Go.Proofs.YtlaoookdegmnnaaGreatDoor
namespace Go.AM
theorem stampsOk_of {clock:Nat}:∀ {l:List (AV × AV × Nat)},(l.Pairwise fun a b=>a.2.2<b.2.2)→(∀ e∈l,e.2.2<clock)→stampsOk clock l=true
 | [],_,_=>rfl
 | [e],_,h=>by simpa[stampsOk] using h e (by simp)
 | e::f::l,hp,h=>by
  rw[List.pairwise_cons] at hp
  simp only[stampsOk,Bool.and_eq_true,Nat.blt_eq]
  exact⟨hp.1 f (by simp),stampsOk_of hp.2 fun x hx=>h x (List.mem_cons_of_mem _ hx)⟩
theorem keysInt_entC:∀ (l:List (Int × AV × Nat)),keysInt (entC (AV.int .i64) l)=some (keysA l)
 | []=>rfl
 | x::l=>by
  show keysInt ((.int .i64 x.1,x.2.1,x.2.2)::entC (AV.int .i64) l)=_
  simp only[keysInt,keysInt_entC l]
  rfl
theorem keysStr_entC:∀ (l:List (List UInt8 × AV × Nat)),keysStr (entC AV.str l)=some (keysA l)
 | []=>rfl
 | x::l=>by
  show keysStr ((.str x.1,x.2.1,x.2.2)::entC AV.str l)=_
  simp only[keysStr,keysStr_entC l]
  rfl
theorem distinctS_of:∀ {l:List (List UInt8)},l.Nodup→distinctS l=true
 | [],_=>rfl
 | x::l,h=>by
  rw[List.nodup_cons] at h
  simp only[distinctS,Bool.and_eq_true,Bool.not_eq_true']
  exact⟨by simpa using h.1,distinctS_of h.2⟩
theorem shortS_of:∀ {l:List (List UInt8)},(∀ k∈l,k.length≤1000000)→shortS l=true
 | [],_=>rfl
 | x::l,h=>by
  simp only[shortS,Bool.and_eq_true,Nat.ble_eq]
  exact⟨h x (by simp),shortS_of fun k hk=>h k (List.mem_cons_of_mem _ hk)⟩
theorem entC_stamps {α:Type} {enc:α→AV} {A:St} {f:Nat} {l:List (α × AV × Nat)} {c:Nat} (h:MapE enc A f l c):stampsOk c (entC enc l)=true:=by
 refine stampsOk_of ?_ fun e he=>?_
 ·unfold entC
  rw[List.pairwise_map]
  exact h.stamps
 ·unfold entC at he
  obtain⟨x,hx,rfl⟩:=List.mem_map.1 he
  exact h.below x hx
theorem Cl.cells_all {A:St} {f:Nat} {cs:List AV} (h:Cl A f cs) {n:Nat} (hn:cs.length=n):A.cells (f,0,0) n=some cs:=by
 subst hn
 unfold St.cells St.look
 simp[h.get,findVer]
end Go.AM
namespace Go.Proofs.YtlaoookdegmnnaaGreatDoor
open Go Go.AM
theorem xseg_segs {b:Nat} {K:Nat→Nat} {A:St} {p m:Nat} {t:TpD} (ht:TpC b K A p m t):∃ r B,XSeg 84 [.ptr (some (p,0,0))] A=some (r,B)∧A.Ext B∧Sl B 1 r (t.keys.map (AV.int .i64))∧∀ f,r.into f=true→A.next≤f:=by
 obtain⟨l,c,h1,h2⟩:=ht.ex
 have hk:keysA l=keysA t.segs:=by rw[←keysA_vals];exact h2.keys
 have hlen:l.length≤64:=by
  have:=h2.length
  have h3:=ht.ok.few
  simp[valsA] at this
  omega
 have hc:=ht.cl.cells_all (n:=4) rfl
 have hcond:(Nat.blt p A.next&&(Nat.blt m A.next&&(Nat.ble (entC (AV.int .i64) l).length 1000000&&stampsOk c (entC (AV.int .i64) l))))=true:=by
  simp only[Bool.and_eq_true,Nat.blt_eq,Nat.ble_eq]
  exact⟨ht.cl.lt,h1.lt,by simp[entC];omega,entC_stamps h1⟩
 unfold XSeg
 simp only[Nat.beq_refl,cond_true,segsX,hc,h1.get,keysInt_entC,hcond,hk]
 unfold TpD.keys
 cases hs:sortB Go.AM.leI (keysA t.segs) with
 | nil=>exact⟨_,_,rfl,.refl _,by simpa using Sl.nil _ _ _,by simp[AV.into]⟩
 | cons x s=>
  refine⟨_,_,rfl,ext_makeV _ _ _ _,?_,fun f hf=>?_⟩
  ·exact (own_text A (cs:=(x::s).map (AV.int .i64)) (n:=s.length+1) (by simp) (Nat.le_refl _)).sl
  ·have:A.next=f:=by simpa[AV.into] using hf
   omega
theorem xk_keys {A:St} {pf f:Nat} {l:List (List UInt8 × AV × Nat)} {c:Nat} (hp:Cl A pf [.map (some f)]) (h:MapE AV.str A f l c) (hl:l.length≤1000000) (hk:∀ k∈keysA l,k.length≤1000000) :
  ∃ r B,XK 156 [.func (.func 261) [] [.ptr (some (pf,0,0))]] A=some (r,B)∧A.Ext B∧Sl B 1 r ((sortB Go.AM.leS (keysA l)).map AV.str):=by
 have hc:=hp.cells_all (n:=1) rfl
 have hrw:isRw A pf=true:=by unfold isRw;rw[hp.get];rfl
 have hcond:(Nat.ble (entC AV.str l).length 1000000&&(stampsOk c (entC AV.str l)&&(distinctS (keysA l)&&shortS (keysA l))))=true:=by
  simp only[Bool.and_eq_true,Nat.ble_eq]
  exact⟨by simpa[entC] using hl,entC_stamps h,distinctS_of h.keys,shortS_of hk⟩
 have hx:XK 156 [.func (.func 261) [] [.ptr (some (pf,0,0))]] A=sortedKeysX 261 [.func (.func 261) [] [.ptr (some (pf,0,0))]] A:=rfl
 rw[hx]
 simp only[sortedKeysX,hrw,Nat.beq_refl,Bool.true_and,cond_true,hc,h.get,keysStr_entC,hcond]
 cases hs:sortB Go.AM.leS (keysA l) with
 | nil=>exact⟨_,_,rfl,.refl _,by simpa using Sl.nil _ _ _⟩
 | cons x s=>
  refine⟨_,_,rfl,qdq _ _ _,?_⟩
  exact (own_make A (cs:=(x::s).map AV.str) (n:=s.length+1) (by simp) (by decide) (Nat.le_refl _)).sl
theorem cmp_lib:∀ (a c:List UInt8),Lib.compareBytes a c=cmpB a c
 | [],[]=>rfl
 | [],_::_=>rfl
 | _::_,[]=>rfl
 | x::a,y::c=>by
  unfold Lib.compareBytes cmpB
  rw[cmp_lib a c]
theorem xk_cmp:RowsC XK:=fun a c A=>by
 rw[←cmp_lib]
 rfl
open Go Go.RowKit Go.Lib
theorem run_copy_cells2 {P:Program} (w:World) (dT sT ty elem:TypeId) (b o dLen dCap:Nat) (a:Addr) (sLen sCap:Nat) (cs:List Value)
  (hu:P.underlying dT=some (.slice elem)) (hs:(P.info? elem).map (·.size)=some 2) (hn:cs.length=Nat.min sLen dLen*2)
  (hsrc:∀ j v,cs[j]?=some v→w.cell? (a.add j)=some v) (hc:∀ j,j<cs.length→(w.cell? ⟨b,o+j,none⟩).isSome=true) (hf:∀ j,j<cs.length→w.frozen? ⟨b,o+j,none⟩=false) (h1:∀ v∈cs,v.oneCell'=true) :
  (Builtin.copy_ #[dT,sT] ty #[.slice (some ⟨b,o,none⟩) dLen dCap,.slice (some a) sLen sCap]).run P w=.ok (goInt (Nat.min sLen dLen)) (w.setCells b o cs):=by
 have hl:=run_loadCells_list (P:=P) w a cs hsrc
 have hst:=run_storeCells_cells (P:=P) b o cs 0 w (by simpa using hc) (by simpa using hf) h1
 cases hq:P.info? elem with
 | none=>simp[hq] at hs
 | some i=>
  have hi:i.size=2:=by simpa[hq] using hs
  simp[Builtin.copy_,run_underlying hu,Builtin.lenOf,Builtin.firstCells,sizeOf,typeInfo,hq,hi,←hn,hl,hst]
theorem inf130:(Tryz.prog.info? 130).map (fun i=>(i.zero,i.size,i.bytes))=some (some (.agg #[.string ⟨#[]⟩,.int .i64 0]),2,24):=by kernel_rfl
set_option maxHeartbeats 4000000 in
set_option maxRecDepth 100000 in
theorem ins_shift (b off n c i vb voff m vc:Nat) (cs vs:List Value) (w:World) (hi:i<n) (hm:0<m) (hroom:n+m≤c) (hsm:n+m≤9223372036854775807) (hvb:vb≠b)
  (hcl:cs.length=n*2) (hvl:vs.length=m*2)
  (hcs:∀ j v,cs[j]?=some v→w.cell? ⟨b,off+j,none⟩=some v) (hsp:∀ j,i*2≤j→j<(n+m)*2→(w.cell? ⟨b,off+j,none⟩).isSome=true) (hfz:∀ j,i*2≤j→j<(n+m)*2→w.frozen? ⟨b,off+j,none⟩=false)
  (hvs:∀ j v,vs[j]?=some v→w.cell? ⟨vb,voff+j,none⟩=some v) (h1c:∀ v∈cs,v.oneCell'=true) (h1v:∀ v∈vs,v.oneCell'=true)
  (tA tB:TypeId) (kA kB:Nat) (hsa:w.shape? vb=some (tA,kA)) (hsb:w.shape? b=some (tB,kB)) (hkB:kB≠0) (hfa:w.frozen? ⟨vb,voff,none⟩=false) (hfe:w.frozen? ⟨vb,kA,none⟩=false) :
  Calls Tryz.prog 298 #[.slice (some ⟨b,off,none⟩) n c,.int .i64 i,.slice (some ⟨vb,voff,none⟩) m vc] w fun e w'=>
   e=.returned (.slice (some ⟨b,off,none⟩) (n+m) c)∧w'=(w.drew.setCells b (off+(i+m)*2) (cs.drop (i*2))).setCells b (off+i*2) vs:=by
 have hz1:¬((m:Int)=0):=by omega
 have hz2:¬((i:Int)=(n:Int)):=by omega
 have hsz:(Tryz.prog.info? 130).map (·.size)=some 2:=by
  obtain⟨i0,hi0,h0,h1,h2⟩:=info_parts inf130
  rw[hi0];simp[h1]
 have hov:∀ lb cb,(callFunc 375 #[.slice (some ⟨vb,voff,none⟩) m vc,.slice (some ⟨b,off+(i+m)*2,none⟩) lb cb]).run Tryz.prog w=.ok (.value (.bool false)) w:=fun lb cb=>by
  rw[run_callFunc_extern Tryz.func375 (by kernel_rfl) (by kernel_rfl) (by kernel_rfl) (e:=Extern.SlicesOverlaps.overlaps #[41,41] #[4]) (by kernel_rfl),
   Lib.run_overlaps_apart w 41 4 130 Tryz.underlying41 2 Tryz.sizeOf130 ⟨vb,voff,none⟩ ⟨b,off+(i+m)*2,none⟩ m vc lb cb hvb tA tB kA kB hsa hsb hkB hfa hfe]
  rfl
 have hdl:(cs.drop (i*2)).length=n*2 - i*2:=by rw[List.length_drop,hcl]
 have mixed:=mixed
 have hw1:IntKind.i64.wrap ((i:Int)+(m:Int))=(i:Int)+(m:Int):=by rw[IntKind.wrap_i64];omega
 have hb1:(0:Int)≤(i:Int)+(m:Int):=by omega
 have hin:i≤n:=by omega
 have htn:((i:Int)+(m:Int)).toNat=i+m:=by omega
 have hb2:¬(c=i+m):=by omega
 have hb3:(i:Int)≤(n:Int)+(m:Int):=by omega
 have hb4:¬(c=i):=by omega
 have hcp1:∀ ty dc sc,(Builtin.copy_ #[41,41] ty #[.slice (some ⟨b,off+(i+m)*2,none⟩) (n+m - (i+m)) dc,.slice (some ⟨b,off+i*2,none⟩) (n+m - i) sc]).run Tryz.prog w.drew=.ok (goInt (Nat.min (n+m - i) (n+m - (i+m)))) (w.drew.setCells b (off+(i+m)*2) (cs.drop (i*2))):=fun ty dc sc=>
  run_copy_cells2 w.drew _ _ ty 130 b (off+(i+m)*2) (n+m - (i+m)) dc ⟨b,off+i*2,none⟩ (n+m - i) sc (cs.drop (i*2)) Tryz.underlying41 hsz (by rw[hdl];simp only[Nat.min_def];split<;>omega)
   (fun j v hj=>by rw[Addr.add_lit,Nat.add_assoc];exact hcs (i*2+j) v (by rwa [List.getElem?_drop] at hj))
   (fun j hj=>by rw[Nat.add_assoc];exact hsp _ (by omega) (by omega)) (fun j hj=>by rw[Nat.add_assoc];exact hfz _ (by omega) (by omega)) (fun v hv=>h1c v (List.mem_of_mem_drop hv))
 obtain⟨W1,hW1⟩:∃ W1,W1=w.drew.setCells b (off+(i+m)*2) (cs.drop (i*2)):=⟨_,rfl⟩
 have hsp1:∀ k,i*2≤k→k<(n+m)*2→(W1.cell? ⟨b,off+k,none⟩).isSome=true:=fun k hk0 hk=>by
  rw[hW1]
  exact isSome_setCells b _ _ _ (fun j hj=>by rw[Nat.add_assoc];exact hsp _ (by omega) (by omega)) _ (hsp k hk0 hk)
 have hcp2:∀ (W:World),(∀ x,W.cell? x=W1.cell? x)→(∀ x,W.frozen? x=W1.frozen? x)→∀ ty dc,(Builtin.copy_ #[41,41] ty #[.slice (some ⟨b,off+i*2,none⟩) (n+m - i) dc,.slice (some ⟨vb,voff,none⟩) m vc]).run Tryz.prog W=.ok (goInt (Nat.min m (n+m - i))) (W.setCells b (off+i*2) vs):=fun W hWc hWf ty dc=>
  run_copy_cells2 W _ _ ty 130 b (off+i*2) (n+m - i) dc ⟨vb,voff,none⟩ m vc vs Tryz.underlying41 hsz (by rw[hvl];simp only[Nat.min_def];split<;>omega)
   (fun j v hj=>by
    rw[Addr.add_lit,hWc,hW1,World.cell?_setCells_out b _ _ _ _ (fun h _=>absurd h hvb)]
    exact hvs j v hj)
   (fun j hj=>by rw[hWc,Nat.add_assoc];exact hsp1 _ (by omega) (by omega)) (fun j hj=>by rw[hWf,hW1,World.frozen?_setCells,Nat.add_assoc];exact hfz _ (by omega) (by omega)) h1v
 rw[←hW1] at hcp1
 go_enter Tryz.func298,Tryz.ntmps298
 go_wp2_with (simp only[hov])
 go_region_law_o (refine step_copy_runI rfl _ _ 41 41 rfl _ _ (by simp[Act.eval,Act.put]) (by simp[Act.eval,Act.put]) (hcp1 _ _ _) ?_)
 go_wp2_with (at_builtin;refine wpList_copy_runI _ rfl _ _ 41 41 rfl _ _ rfl rfl (hcp2 _ (fun _=>rfl) (fun _=>rfl) _ _) ?_)
 go_ret
 first|exact⟨rfl,rfl⟩|exact⟨rfl,by rw[hW1]⟩
set_option maxHeartbeats 4000000 in
set_option maxRecDepth 100000 in
theorem ins_grow (b off n c i vb voff m vc:Nat) (cs vs:List Value) (w:World) (hi:i<n) (hm:0<m) (hnc:n≤c) (hroom:c<n+m) (hbig:(n+m)*24≤140737488355328)
  (hcl:cs.length=n*2) (hvl:vs.length=m*2)
  (hcs:∀ j v,cs[j]?=some v→w.cell? ⟨b,off+j,none⟩=some v)
  (hvs:∀ j v,vs[j]?=some v→w.cell? ⟨vb,voff+j,none⟩=some v) (h1c:∀ v∈cs,v.oneCell'=true) (h1v:∀ v∈vs,v.oneCell'=true) :
  Calls Tryz.prog 298 #[.slice (some ⟨b,off,none⟩) n c,.int .i64 i,.slice (some ⟨vb,voff,none⟩) m vc] w fun e w'=>
   e=.returned (.slice (some ⟨w.heap.size,0,none⟩) (n+m) (grownCap w (n+m) c 130)) ∧
   ∃ ROW:Array Value,(∀ (j:Nat) (v:Value),(cs.take (i*2))[j]?=some v→ROW[j]?=some v)∧ROW.size=grownCap w (n+m) c 130*2 ∧
   w'=(((w.alloc (.cells ROW 130)).drew.setCells w.heap.size (i*2) vs).drew).setCells w.heap.size ((i+m)*2) (cs.drop (i*2)):=by
 have mixed:=mixed
 obtain⟨i0,hi0,hz0,hzs,hzb⟩:=info_parts inf130
 have hz1:¬((m:Int)=0):=by omega
 have hz2:¬((i:Int)=(n:Int)):=by omega
 have hz3:(c:Int)<(n:Int)+(m:Int):=by omega
 have hsz:(Tryz.prog.info? 130).map (·.size)=some 2:=by rw[hi0];simp[hzs]
 have hbw:b<w.heap.size:=block_lt_of_cell (hcs 0 _ (List.getElem?_eq_getElem (by omega)))
 have hvw:vb<w.heap.size:=block_lt_of_cell (hvs 0 _ (List.getElem?_eq_getElem (by omega)))
 have hkk:(n:Int)+(m:Int) - (i:Int)=((n+m - i:Nat):Int):=by omega
 have hik:i+(n+m - i)=n+m:=by omega
 have hold:(Builtin.firstCells i0.size i (.slice (some ⟨b,off,none⟩) i c)).run Tryz.prog w.drew=.ok (cs.take (i*2)).toArray w.drew:=by
  rw[hzs]
  exact run_firstCells_some w.drew 2 i ⟨b,off,none⟩ i c (cs.take (i*2)) (by rw[List.length_take];omega) (fun j v hj=>by
   rw[Addr.add_lit]
   rw[List.getElem?_take] at hj
   split at hj
   ·exact hcs j v hj
   ·cases hj)
 obtain⟨Z,hZ⟩:∃ Z:Value,Z=.agg #[.string ⟨#[]⟩,.int .i64 0]:=⟨_,rfl⟩
 rw[←hZ] at hz0
 have hZs:Z.cells.size=2:=by rw[hZ];rfl
 have hrz:∀ ty,(Builtin.append_ #[41,3] ty #[.slice (some ⟨b,off,none⟩) i c,.int .i64 ((n:Int)+(m:Int) - (i:Int))]).run Tryz.prog w =
   .ok (.slice (some ⟨w.heap.size,0,none⟩) (n+m) (grownCap w (n+m) c 130)) (w.drew.alloc (.cells ((cs.take (i*2)).toArray++Builtin.zeroCells Z.cells (n+m - i)++Builtin.zeroCells Z.cells (grownCap w (n+m) c 130 - (n+m))) 130)):=fun ty=>by
  have h:=Lib.run_append_grow_zeros w 41 3 ty 130 i0 _ .i64 .i64 Tryz.underlying41 Tryz.underlying3 hi0 hz0 (some ⟨b,off,none⟩) i c (cs.take (i*2)) hold (n+m - i) (by omega) (by omega) (by omega) (by omega) (by rw[hzb];omega) (by rw[hzb,hik];exact growslice_fits hroom hbig)
  rw[hik] at h
  rw[hkk]
  exact h
 have hGn:n+m≤grownCap w (n+m) c 130:=grownCap_ge w _ _ _
 have hG63:grownCap w (n+m) c 130≤9223372036854775807:=by
  have:=grownCap_le_maxLen w (n+m) c 130 (by unfold maxLen;omega)
  unfold maxLen at this
  omega
 obtain⟨G,hG⟩:∃ G,G=grownCap w (n+m) c 130:=⟨_,rfl⟩
 obtain⟨ROW,hROW⟩:∃ ROW:Array Value,ROW=(cs.take (i*2)).toArray++Builtin.zeroCells Z.cells (n+m - i)++Builtin.zeroCells Z.cells (G - (n+m)):=⟨_,rfl⟩
 rw[←hG] at hrz hGn hG63 ⊢
 rw[←hROW] at hrz
 have hRs:ROW.size=G*2:=by
  rw[hROW]
  simp only[Array.size_append,List.size_toArray,List.length_take,Builtin.zeroCells,hZs,hcl]
  simp[hZs]
  omega
 have hRl:(n+m)*2≤ROW.size:=by rw[hRs];omega
 have hRg:∀ (j:Nat) (v:Value),(cs.take (i*2))[j]?=some v→ROW[j]?=some v:=fun j v hj=>by
  have hj2:j<(cs.take (i*2)).length:=(List.getElem?_eq_some_iff.1 hj).1
  rw[hROW,Array.append_assoc,Array.getElem?_append_left (by simpa using hj2)]
  simpa using hj
 refine Calls.mono (h:=?_) (R:=fun e w'=>e=.returned (.slice (some ⟨w.heap.size,0,none⟩) (n+m) G)∧w'=(((w.alloc (.cells ROW 130)).drew.setCells w.heap.size (i*2) vs).drew).setCells w.heap.size ((i+m)*2) (cs.drop (i*2))) fun e w' h=>⟨h.1,ROW,hRg,hRs,h.2⟩
 clear hRg hRs
 obtain⟨W1,hW1⟩:∃ W1,W1=w.drew.alloc (.cells ROW 130):=⟨_,rfl⟩
 rw[←hW1] at hrz
 have hN:∀ j,j<(n+m)*2→(W1.cell? ⟨w.heap.size,j,none⟩).isSome=true:=fun j hj=>by
  rw[hW1,World.cell?_alloc_at (w:=w.drew) ROW _ w.heap.size j rfl,Array.getElem?_eq_getElem (by omega)];rfl
 have hNf:∀ j,W1.frozen? ⟨w.heap.size,j,none⟩=false:=fun j=>by rw[hW1];exact World.frozen?_alloc_at (w:=w.drew) ROW _ w.heap.size j rfl
 have hOb:∀ j v,w.cell? ⟨b,j,none⟩=some v→W1.cell? ⟨b,j,none⟩=some v:=fun j v h=>by rw[hW1,World.cell?_alloc_past (w:=w.drew) _ b j hbw];exact h
 have hOv:∀ j v,w.cell? ⟨vb,j,none⟩=some v→W1.cell? ⟨vb,j,none⟩=some v:=fun j v h=>by rw[hW1,World.cell?_alloc_past (w:=w.drew) _ vb j hvw];exact h
 have hcpA:∀ (W:World),(∀ x,W.cell? x=W1.cell? x)→(∀ x,W.frozen? x=W1.frozen? x)→∀ ty dc,(Builtin.copy_ #[41,41] ty #[.slice (some ⟨w.heap.size,i*2,none⟩) (n+m - i) dc,.slice (some ⟨vb,voff,none⟩) m vc]).run Tryz.prog W=.ok (goInt (Nat.min m (n+m - i))) (W.setCells w.heap.size (i*2) vs):=fun W hWc hWf ty dc=>
  run_copy_cells2 W _ _ ty 130 w.heap.size (i*2) (n+m - i) dc ⟨vb,voff,none⟩ m vc vs Tryz.underlying41 hsz (by rw[hvl];simp only[Nat.min_def];split<;>omega)
   (fun j v hj=>by rw[Addr.add_lit,hWc];exact hOv _ v (hvs j v hj))
   (fun j hj=>by rw[hWc];exact hN _ (by omega)) (fun j hj=>by rw[hWf];exact hNf _) h1v
 have hGi:¬(G=i):=by omega
 have hGim:¬(G=i+m):=by omega
 have hci:¬(c=i):=by omega
 have hbN:b≠w.heap.size:=by omega
 have hdl:(cs.drop (i*2)).length=n*2 - i*2:=by rw[List.length_drop,hcl]
 have hcpB:∀ (W:World),(∀ x,W.cell? x=(W1.setCells w.heap.size (i*2) vs).cell? x)→(∀ x,W.frozen? x=(W1.setCells w.heap.size (i*2) vs).frozen? x)→∀ ty dc sc,(Builtin.copy_ #[41,41] ty #[.slice (some ⟨w.heap.size,(i+m)*2,none⟩) (n+m - (i+m)) dc,.slice (some ⟨b,off+i*2,none⟩) (n - i) sc]).run Tryz.prog W=.ok (goInt (Nat.min (n - i) (n+m - (i+m)))) (W.setCells w.heap.size ((i+m)*2) (cs.drop (i*2))):=fun W hWc hWf ty dc sc=>
  run_copy_cells2 W _ _ ty 130 w.heap.size ((i+m)*2) (n+m - (i+m)) dc ⟨b,off+i*2,none⟩ (n - i) sc (cs.drop (i*2)) Tryz.underlying41 hsz (by rw[hdl];simp only[Nat.min_def];split<;>omega)
   (fun j v hj=>by
    rw[Addr.add_lit,hWc,World.cell?_setCells_out _ _ _ _ _ (fun h _=>absurd h hbN),Nat.add_assoc]
    exact hOb _ v (hcs (i*2+j) v (by rwa [List.getElem?_drop] at hj)))
   (fun j hj=>by rw[hWc];exact isSome_setCells _ _ _ _ (fun t ht=>hN _ (by omega)) _ (hN _ (by omega)))
   (fun j hj=>by rw[hWf,World.frozen?_setCells];exact hNf _) (fun v hv=>h1c v (List.mem_of_mem_drop hv))
 subst hW1
 have hE1:∀ x,((w.alloc (.cells ROW 130)).drew).cell? x=(w.drew.alloc (.cells ROW 130)).cell? x:=fun x=>rfl
 have hE2:∀ x,((w.alloc (.cells ROW 130)).drew).frozen? x=(w.drew.alloc (.cells ROW 130)).frozen? x:=fun x=>rfl
 have hF1:∀ x,(((w.alloc (.cells ROW 130)).drew.setCells w.heap.size (i*2) vs).drew).cell? x=((w.drew.alloc (.cells ROW 130)).setCells w.heap.size (i*2) vs).cell? x:=fun x=>rfl
 have hF2:∀ x,(((w.alloc (.cells ROW 130)).drew.setCells w.heap.size (i*2) vs).drew).frozen? x=((w.drew.alloc (.cells ROW 130)).setCells w.heap.size (i*2) vs).frozen? x:=fun x=>rfl
 have hw1:IntKind.i64.wrap ((i:Int)+(m:Int))=(i:Int)+(m:Int):=by rw[IntKind.wrap_i64];omega
 have hb1:(0:Int)≤(i:Int)+(m:Int):=by omega
 have hin:i≤n:=by omega
 have htn:((i:Int)+(m:Int)).toNat=i+m:=by omega
 have hb3:(i:Int)≤(n:Int):=by omega
 clear hkk hik hold hROW hG hRl hZ hZs hz0
 go_enter Tryz.func298,Tryz.ntmps298
 go_wp2_with (first
  | (at_builtin;refine Lib.wpList_append_run _ rfl _ _ _ _ rfl _ _ rfl rfl _ _ (hrz _) ?_)
  | (at_builtin;refine wpList_copy_runI _ rfl _ _ 41 41 rfl _ _ rfl rfl (hcpA _ hE1 hE2 _ _) ?_)
  | (at_builtin;refine wpList_copy_runI _ rfl _ _ 41 41 rfl _ _ rfl rfl (hcpB _ (fun _=>rfl) (fun _=>rfl) _ _ _) ?_))
 go_region_law_o (refine step_copy_runI rfl _ _ 41 41 rfl (.slice (some ⟨w.heap.size,(i+m)*2,none⟩) (n+m - (i+m)) (G - (i+m))) (.slice (some ⟨b,off+i*2,none⟩) (n - i) (c - i)) (by simp[Act.eval,Act.put]) (by simp[Act.eval,Act.put]) (hcpB _ hF1 hF2 3 (G - (i+m)) (c - i)) ?_)
 go_wp2
 go_ret
 exact⟨rfl,rfl⟩
set_option maxHeartbeats 4000000 in
set_option maxRecDepth 100000 in
theorem ins_end (base:Option Addr) (n c vb voff m vc:Nat) (r:Value) (w w1:World) (hm:0<m) (hnc:n≤c) (hb0:base=none→n=0∧c=0)
  (hrun:(Builtin.append_ #[41,41] 41 #[.slice base n c,.slice (some ⟨vb,voff,none⟩) m vc]).run Tryz.prog w=.ok r w1) :
  Calls Tryz.prog 298 #[.slice base n c,.int .i64 n,.slice (some ⟨vb,voff,none⟩) m vc] w fun e w'=>e=.returned r∧w'=w1:=by
 have mixed:=mixed
 have hz1:¬((m:Int)=0):=by omega
 go_enter Tryz.func298,Tryz.ntmps298
 cases base with
 | none=>
  obtain⟨h0,h0'⟩:=hb0 rfl
  subst h0 h0'
  go_wp2_with (at_builtin;refine Lib.wpList_append_run _ rfl _ _ _ _ rfl _ _ rfl rfl _ _ hrun ?_)
  go_ret
  exact⟨rfl,rfl⟩
 | some a=>
  obtain⟨ab,ao,asp⟩:=a
  go_wp2_with (at_builtin;refine Lib.wpList_append_run _ rfl _ _ _ _ rfl _ _ rfl rfl _ _ hrun ?_)
  all_goals (go_ret;exact⟨rfl,rfl⟩)
end Go.Proofs.YtlaoookdegmnnaaGreatDoor
namespace Go.AM
def appendC (A:St) (size bytes n:Nat) (new:List AV):AV→Option (AV × St)
 | .slice (some (f,v,o)) po len cap 0=>
  if len+n≤cap then (match A.write (f,v,o+len*size) new with
   | some B=>some (.slice (some (f,v,o)) po (len+n) cap 0,B)
   | none=>none)
  else if (len+n)*bytes≤70368744177664∧len+n≤70368744177664 then match A.cells (f,v,o) (len*size) with
   | some old=>some (.slice (some (A.next,0,0)) 0 (len+n) 0 size,(A.make (old++new) size).2)
   | none=>none
  else none
 | .slice (some (f,v,o)) po len skip (q+1)=>
  if (len+n)*bytes≤70368744177664∧len+n≤70368744177664∧q+1=size then
   match A.get f with
   | some (.cells cs vers nv false)=>
    match findVer v vers with
    | some y=>
     if y.lo≤o∧o+len*size≤y.hi∧y.hi≤cs.length then
     (if o+(len+n)*size≤y.hi then
      match A.write (f,v,o+len*size) new with
      | some B=>some (.slice (some (f,v,o)) po (len+n) skip (q+1),B)
      | none=>none
     else
      some (.slice (some (f,nv,o)) o (len+n) 0 (q+1),
       A.put f (.cells (cs.take (o+len*size)++new) (⟨nv,o,o+(len+n)*size,size⟩::vers.filter fun z=>decide (z.hi≤o+len*size)) (nv+1) false)))
     else none
    | none=>none
   | _=>none
  else none
 | _=>none
theorem own_appendC {lo:Nat} {A:St} {sz bytes n:Nat} {p:Pl} {po len cap q:Nat} {cs ds:List AV} (hs:Own lo A sz (.slice (some p) po len cap q) cs) (hlen:ds.length=n*sz) (hlo:lo≤A.next) (hz:sz≠0) (hfl:ds.all AV.flat=true)
  (hb:(len+n)*bytes≤70368744177664) (hb':len+n≤70368744177664) :
  ∃ s' B,appendC A sz bytes n ds (.slice (some p) po len cap q)=some (s',B)∧s'.slen=len+n∧Own lo B sz s' (cs++ds)∧But A B (.slice (some p) po len cap q)∧∀ f,s'.into f=true→AV.into f (.slice (some p) po len cap q)=true∨A.next≤f:=by
 cases hs with
 | @mem f v o po len cap q all vers nv y hlo' hf' hg hv h1 h2 h3 hq=>
  have hsl:=(Own.mem (po:=po) hlo' hf' hg hv h1 h2 h3 hq).sl
  cases q with
  | zero=>
   have hq':len≤cap∧o+cap*sz≤y.hi:=by rcases hq with h|h;exact h.2;exact absurd rfl h.2
   unfold appendC
   dsimp only
   by_cases hfit:len+n≤cap
   ·have hfit':o+(len+n)*sz≤y.hi:=Nat.le_trans (Nat.add_le_add_left (Nat.mul_le_mul_right _ hfit) _) hq'.2
    obtain⟨B,w1,w2,rfl⟩:=own_write (po:=po) (cap:=cap) (q:=0) hlo' hf' hg hv h1 h3 hlen hfl hfit' (.inl ⟨rfl,hfit,hq'.2⟩)
    refine⟨.slice (some (f,v,o)) po (len+n) cap 0,_,?_,by simp[AV.slen],w2,but_put _,fun g h=>.inl (by simpa[AV.into] using h)⟩
    rw[if_pos hfit,w1]
   ·have hcells:A.cells (f,v,o) (len*sz)=some ((all.drop o).take (len*sz)):=by
     cases hsl with
     | mem _ hc _=>exact hc
    have hcl:=cells_length hcells
    refine⟨.slice (some (A.next,0,0)) 0 (len+n) 0 sz,(A.make ((all.drop o).take (len*sz)++ds) sz).2,?_,by simp[AV.slen],own_make A (by rw[List.length_append,hcl,hlen,Nat.add_mul]) hz hlo,But.of_ext (qdq _ _ _) _,fun g h=>.inr ?_⟩
    ·rw[if_neg hfit,if_pos ⟨hb,hb'⟩,hcells]
    ·simp[AV.into] at h;omega
  | succ q=>
   have hq':q+1=sz:=by rcases hq with h|h;exact absurd h.1 (by omega);exact h.1
   unfold appendC
   dsimp only
   rw[if_pos ⟨hb,hb',hq'⟩,hg]
   dsimp only
   rw[hv]
   dsimp only
   rw[if_pos ⟨h1,h2,h3⟩]
   by_cases hfit:o+(len+n)*sz≤y.hi
   ·obtain⟨B,w1,w2,rfl⟩:=own_write (po:=po) (cap:=cap) (q:=q+1) hlo' hf' hg hv h1 h3 hlen hfl hfit (.inr ⟨hq',by omega⟩)
    refine⟨.slice (some (f,v,o)) po (len+n) cap (q+1),_,?_,by simp[AV.slen],w2,but_put _,fun g h=>.inl (by simpa[AV.into] using h)⟩
    rw[if_pos hfit,w1]
   ·rw[if_neg hfit]
    refine⟨_,_,rfl,by simp[AV.slen],?_,but_put _,fun g h=>.inl (by simpa[AV.into] using h)⟩
    have e:=grown_cells (all:=all) (ds:=ds) (rest:=[]) (o:=o) (a:=len*sz) (b:=n*sz) (by omega) hlen
    rw[List.append_nil] at e
    rw[←e,←Nat.add_mul]
    exact .mem hlo' hf' (by rw[St.get_put,if_pos rfl]) (by simp[findVer];rfl) (Nat.le_refl _) (Nat.le_refl _) (by simp[hlen,Nat.add_mul];omega) (.inr ⟨hq',by omega⟩)
section
variable {F:Fr} {m:Mu} {A:St} {w:World}
theorem appendC_sound {s r:AV} {B:St} {size bytes n:Nat} {new:List AV} {news:List Value} {cs:Value} (R:Rel F m A w) (ss:cvo m s=some cs) (h:appendC A size bytes n new s=some (r,B)) (hnews:cvos m new=some news) (hlen:new.length=n*size) (hs0:size≠0) (hn0:n≠0)
  (hone:∀ v∈news,v.oneCell'=true) (hfull:∀ p po len cap q,s=.slice (some p) po len cap q→∃ k c,0<k∧cvo m (.slice (some p) po k cap q)=some c) :
  ∃ b ofs cap,cs=.slice (some ⟨b,ofs,none⟩) s.slen cap∧s.slen≤cap ∧
   ((s.slen+n≤cap∧(∀ j,j<news.length→(w.cell? ⟨b,ofs+s.slen*size+j,none⟩).isSome=true∧w.frozen? ⟨b,ofs+s.slen*size+j,none⟩=false) ∧
     ∃ m',m.le m'∧Rel F m' B (w.setCells b (ofs+s.slen*size) news)∧cvo m' r=some (.slice (some ⟨b,ofs,none⟩) (s.slen+n) cap)) ∨
    (cap<s.slen+n∧(s.slen+n)*bytes≤70368744177664∧s.slen+n≤70368744177664∧∃ olds:List Value,olds.length=s.slen*size∧(∀ (j:Nat) (u:Value),olds[j]?=some u→w.cell? ⟨b,ofs+j,none⟩=some u) ∧
      ∀ (W:World) (C:Array Value) (e:TypeId) (cp:Nat),Rel F m A W→(∀ (j:Nat) (u:Value),(olds++news)[j]?=some u→C[j]?=some u)→cp*size≤C.size→s.slen+n≤cp →
       ∃ m',m.le m'∧Rel F m' B (W.alloc (.cells C e))∧cvo m' r=some (.slice (some ⟨W.heap.size,0,none⟩) (s.slen+n) cp))):=by
 have hnl:=qgq hnews
 unfold appendC at h
 split at h
 ·-- exact
  rename_i f v o po len cap
  simp only[AV.slen]
  have hx:=ss
  simp only[cvo] at hx
  split at hx
  ·rename_i hlc
   simp only[Option.map_eq_some_iff] at hx
   obtain⟨ad,hp,rfl⟩:=hx
   have hspot:=(plc_add hp 0).2
   obtain⟨bb,oo,sp⟩:=ad
   simp only at hspot;subst hspot
   refine⟨bb,oo,cap,rfl,hlc,?_⟩
   split at h
   ·rename_i hroom
    split at h
    ·rename_i B' hw
     cases h
     obtain⟨b,ofs,k1,k2,k3,k4⟩:=R.write hw hnews
     have hpa:=(plc_add hp (len*size)).1
     rw[Addr.add_mk] at hpa
     rw[hpa] at k1;cases k1
     refine .inl ⟨hroom,fun j hj=>k2 j hj,m,Mu.le_refl m,k4,?_⟩
     simp only[cvo];rw[if_pos hroom,hp];rfl
    ·cases h
   ·rename_i hroom
    split at h
    ·rename_i hb
     split at h
     ·rename_i old hold
      cases h
      obtain⟨b,ofs,ys,k1,k2,k3,k4⟩:=R.cells hold
      rw[hp] at k1;cases k1
      refine .inr ⟨by omega,hb.1,hb.2,ys,k3,fun j u hj=>k4 j u hj,fun W C e cp RW hC hcap hfit=>?_⟩
      have hle:(len+n)*size≤cp*size:=Nat.mul_le_mul_right _ hfit
      have hcv:=cvos_append k2 hnews
      have hol:=qgq k2
      obtain⟨g1,g2⟩:=RW.new_cells hcv (C:=C) (e:=e) (fz:=(0,0)) (cap:=cp) (sz:=size) hC hcap (by simp;rw[Nat.add_mul] at hle;omega) (by simp)
      refine⟨_,g2,g1,?_⟩
      obtain⟨s',hs'⟩:∃ s',size=s'+1:=⟨size - 1,by omega⟩
      subst hs'
      simp only[cvo,Mu.add,plc]
      simp
      omega
     ·cases h
    ·cases h
  ·cases hx
 ·-- inexact
  rename_i f v o po len skip q
  simp only[AV.slen]
  have hx:=ss
  have hx0:=hx
  simp only[cvo] at hx
  split at hx
  ·rename_i l hl
   split at hx
   ·rename_i hcl
    obtain⟨c1,c2,c3⟩:=hcl
    simp only[Option.map_eq_some_iff] at hx
    obtain⟨ad,hp,rfl⟩:=hx
    split at h
    ·rename_i hb
     obtain⟨hb1,hb2,hq⟩:=hb
     split at h
     ·rename_i csx vers nv hg
      split at h
      ·rename_i y hy
       obtain⟨hy1,hy2⟩:=qwq hy
       split at h
       ·rename_i hrange
        obtain⟨r1,r2,r3⟩:=hrange
        obtain⟨l',cr⟩:=(R.got _ _ hg).1 y hy1
        have:l'=l:=by have:=cr.mu;rw[hy2,hl] at this;cases this;rfl
        subst this
        have hlsz:l'.sz=size:=by omega
        have hroomcells:=(cr.rw rfl).2.1
        have hlo:=cr.lo
        have hpl:ad=⟨l'.cb,l'.co+(o - l'.lo),none⟩:=by
         by_cases hcap0:l'.cap=skip
         ·-- no room at all: the address of what is behind the last one
          exfalso
          obtain⟨k,c,hk0,hk⟩:=hfull _ _ _ _ _ rfl
          simp only[cvo,hl] at hk
          split at hk
          ·omega
          ·cases hk
         ·rw[if_neg hcap0] at hp
          unfold plc at hp
          simp only at hp
          rw[hl] at hp
          dsimp only at hp
          rw[if_pos (by omega)] at hp
          exact (Option.some.inj hp).symm
        subst hpl
        refine⟨l'.cb,l'.co+(o - l'.lo),l'.cap - skip,rfl,by omega,?_⟩
        split at h
        ·-- within the known cells
         rename_i hin
         split at h
         ·rename_i B' hw
          cases h
          have hroom:skip+(len+n)≤l'.cap:=by
           have e1:(skip+(len+n))*size=skip*size+(len+n)*size:=Nat.add_mul _ _ _
           rw[hlsz] at hroomcells c1
           have:(skip+(len+n))*size≤l'.cap*size:=by omega
           exact Nat.le_of_mul_le_mul_right this (by omega)
          have hcap0:¬l'.cap=skip:=by omega
          rw[if_neg hcap0] at hp
          obtain⟨b,ofs,k1,k2,k3,k4⟩:=R.write hw hnews
          have hpa:=(plc_add hp (len*size)).1
          rw[Addr.add_mk] at hpa
          rw[hpa] at k1;cases k1
          refine .inl ⟨by omega,fun j hj=>k2 j hj,m,Mu.le_refl m,k4,?_⟩
          simp only[cvo,hl]
          rw[if_pos ⟨c1,hroom,c3⟩,if_neg hcap0,hp];rfl
         ·cases h
        ·rename_i hin
         cases h
         by_cases hroom:skip+(len+n)≤l'.cap
         ·-- in place
          obtain⟨q1,q2,q3⟩:=R.fork_in hg hy1 hy2 hl r1 r2 r3 hlsz c1 hroom hnews hlen hone
          refine .inl ⟨by omega,fun j hj=>q1 j hj,_,q2,q3,?_⟩
          simp only[cvo,Mu.add,plc]
          simp
          exact⟨by omega,by omega⟩
         ·-- a new block
          have hcellsrd:∃ olds,cvos m ((csx.drop o).take (len*size))=some olds:=cvos_drop_take (fun j b' hj1 hj2 hb'=>by
           obtain⟨y',hy',_⟩:=cr.cell j b' (by omega) (by omega) hb';exact⟨y',hy'⟩)
          obtain⟨olds,hold⟩:=hcellsrd
          have hol:=qgq hold
          rw[List.length_take,List.length_drop] at hol
          have hol2:olds.length=len*size:=by omega
          refine .inr ⟨by omega,hb1,hb2,olds,hol2,fun j u hj=>?_,fun W C e cp RW hC hcap hfit=>?_⟩
          ·have hj2:j<olds.length:=by
            rcases Nat.lt_or_ge j olds.length with h|h
            ·exact h
            ·rw[List.getElem?_eq_none h] at hj;cases hj
           obtain⟨b',hb',hbv⟩:=cvos_get' hold hj
           rw[List.getElem?_take,if_pos (by omega),List.getElem?_drop] at hb'
           obtain⟨y',hy',hwy⟩:=cr.cell (o+j) b' (by omega) (by omega) hb'
           rw[hbv] at hy';cases hy'
           rw[show l'.co+(o - l'.lo)+j=l'.co+(o+j - y.lo) by omega]
           exact hwy
          ·obtain⟨q2,q3⟩:=RW.fork_out (v:=v) hg hy1 r1 r2 r3 hnews hlen hold (C:=C) (e:=e) (cap:=cp) hC hcap hfit
           refine⟨_,q2,q3,?_⟩
           simp only[cvo,Mu.add,plc]
           simp
           exact⟨by omega,by omega⟩
       ·cases h
      ·cases h
     ·cases h
    ·cases h
   ·cases hx
  ·cases hx
 ·cases h
end
open Go.Sort
theorem setCells_append (b:Nat) (ys:List Value):∀ (xs:List Value) (o:Nat) (w:World),w.setCells b o (xs++ys)=(w.setCells b o xs).setCells b (o+xs.length) ys
 | [],o,w=>by simp[World.setCells]
 | x::xs,o,w=>by
  show (w.setCell ⟨b,o,none⟩ x).setCells b (o+1) (xs++ys)=((w.setCell ⟨b,o,none⟩ x).setCells b (o+1) xs).setCells b (o+(xs.length+1)) ys
  rw[setCells_append b ys xs,show o+1+xs.length=o+(xs.length+1) by omega]
theorem setL_swap {xs ys:List Value} {o o2:Nat} (h:o+xs.length≤o2) (c:Array Value):setL o xs (setL o2 ys c)=setL o2 ys (setL o xs c):=by
 apply Array.ext_getElem?
 intro k
 rw[setL_get,setL_get,setL_get,setL_get,setL_size,setL_size]
 by_cases h1:o≤k∧k<o+xs.length∧k<c.size
 ·rw[if_pos h1,if_neg (by omega),if_pos h1]
 ·rw[if_neg h1,if_neg h1]
theorem setCells_swap {b:Nat} {xs ys:List Value} {o o2:Nat} (h:o+xs.length≤o2) (w:World):(w.setCells b o2 ys).setCells b o xs=(w.setCells b o xs).setCells b o2 ys:=by
 rw[setCells_map,setCells_map,setCells_map,setCells_map,mapBlock_mapBlock,mapBlock_mapBlock]
 congr 1
 funext c
 exact setL_swap h c
theorem setCells_join {b:Nat} {xs ys:List Value} {o o2:Nat} (h:o+xs.length=o2) (w:World):(w.setCells b o2 ys).setCells b o xs=w.setCells b o (xs++ys):=by
 rw[setCells_swap (by omega),setCells_append,h]
theorem setCells_alloc (w:World) (C:Array Value) (e:TypeId) (o:Nat) (vs:List Value):(w.alloc (.cells C e)).setCells w.heap.size o vs=w.alloc (.cells (setL o vs C) e):=by
 rw[setCells_map]
 unfold mapBlock World.alloc
 congr 1
 apply Array.ext_getElem?
 intro k
 rw[Array.getElem?_modify,Array.getElem?_push,Array.getElem?_push]
 by_cases h:k=w.heap.size
 ·subst h
  simp[onCells]
 ·rw[if_neg (fun e=>h e.symm),if_neg h,if_neg h]
theorem cvo_cut {m:Mu} {p:Pl} {po n i cap q c:Nat} {a:Addr} (h:cvo m (.slice (some p) po n cap q)=some (.slice (some a) n c)) (hi:i≤n):cvo m (.slice (some p) po i cap q)=some (.slice (some a) i c):=by
 cases q with
 | zero=>
  simp only[cvo] at h ⊢
  split at h
  ·rename_i h1
   rw[if_pos (by omega)]
   simp only[Option.map_eq_some_iff] at h ⊢
   obtain⟨ad,h2,h3⟩:=h
   cases h3
   exact⟨_,h2,rfl⟩
  ·cases h
 | succ q=>
  simp only[cvo] at h ⊢
  split at h
  ·rename_i l hl
   split at h
   ·rename_i h1
    rw[if_pos ⟨h1.1,by omega,h1.2.2⟩]
    simp only[Option.map_eq_some_iff] at h ⊢
    obtain⟨ad,h2,h3⟩:=h
    cases h3
    exact⟨_,h2,rfl⟩
   ·cases h
  ·cases h
def insX:List AV→St→Option (AV × St)
 | [s,.int .i64 i,.slice (some (g,0,0)) 0 1 1 0],A=>match s with
  | .slice none po 0 cap q=>bif decide (i=0) then appendV A false 2 24 (.slice none po 0 cap q) (.slice (some (g,0,0)) 0 1 1 0) else none
  | .slice (some (f,u,o)) po len cap q=>
   bif decide (i=(len:Int)) then appendV A false 2 24 (.slice (some (f,u,o)) po len cap q) (.slice (some (g,0,0)) 0 1 1 0) else
   bif decide (0≤i)&&(decide (i<(len:Int))&&(!Nat.beq f g&&(isRw A f&&(isRw A g&&Nat.ble len 1000000)))) then (match A.cells (g,0,0) 2,A.cells (f,u,o) (len*2) with
    | some nv,some cs=>bif (nv++cs).all AV.flat then appendC A 2 24 (len+1 - i.toNat) (nv++cs.drop (i.toNat*2)) (.slice (some (f,u,o)) po i.toNat cap q) else none
    | _,_=>none) else none
  | _=>none
 | _,_=>none
end Go.AM
namespace Go.Proofs.YtlaoookdegmnnaaGreatDoor
open Go Go.AM Go.RowKit
theorem rw_of {A:St} {f:Nat} (h:isRw A f=true):A.Rw f:=by
 unfold isRw at h
 split at h
 ·rename_i ro hg
  exact⟨_,hg,by simpa[Blk.ro] using h⟩
 ·cases h
theorem shape_of {w:World} {b o:Nat} {v:Value} (h:w.cell? ⟨b,o,none⟩=some v):∃ c e fz,w.heap[b]?=some (.cells c e fz)∧c[o]?=some v∧w.shape? b=some (e,c.size):=by
 unfold World.cell? at h
 split at h
 ·rename_i c e fz hb
  exact⟨c,e,fz,hb,by simpa using h,by unfold World.shape?;rw[hb]⟩
 ·cases h
theorem appendR {F:Fr} {m:Mu} {A B:St} {w:World} {s x r:AV} {cs cx:Value} (R:Rel F m A w) (hs:cvo m s=some cs) (hx:cvo m x=some cx) (hsl:∃ p po n cap q,x=.slice p po n cap q) (h:appendV A false 2 24 s x=some (r,B)) :
  ∃ c w' m',(Builtin.append_ #[41,41] 41 #[cs,cx]).run Tryz.prog w=.ok c w'∧m.le m'∧Rel F m' B w'∧cvo m' r=some c:=by
 obtain⟨i0,hi0,hz0,hzs,hzb⟩:=info_parts inf130
 obtain⟨p,po,n,cap,q,rfl⟩:=hsl
 unfold appendV at h
 simp only[okSrc,cond_true] at h
 exact append_sound R (.of hs) (.of hx) h Tryz.underlying41 hi0 hz0 (by rw[hzs];rfl) hzs hzb (.inl ⟨130,Tryz.underlying41⟩) (fun s h=>by cases h) (fun _ _ _ _ _ _=>⟨130,Tryz.underlying41⟩)
theorem cvos_cons_inv {m:Mu} {a:AV} {l:List AV} {ys:List Value} (h:cvos m (a::l)=some ys):∃ y zs,cvo m a=some y∧cvos m l=some zs∧ys=y::zs:=by
 unfold cvos at h
 split at h
 ·rename_i y zs h1 h2
  cases h
  exact⟨_,_,h1,h2,rfl⟩
 ·cases h
theorem plc_block {m:Mu} {f v o:Nat} {a:Addr} (h:plc m (f,v,o)=some a):∃ l,m f v=some l∧a.block=l.cb:=by
 unfold plc at h
 dsimp only at h
 split at h
 ·rename_i l hl
  split at h
  ·cases h;exact⟨l,hl,rfl⟩
  ·cases h
 ·cases h
def XIns:Calls':=fun f args A=>bif Nat.beq f 298 then insX args A else none
theorem xins_ok:GSound Tryz.prog M0 XIns:=fun f args A r B h=>by
 unfold XIns at h
 cases hf:Nat.beq f 298 with
 | false=>rw[hf] at h;cases h
 | true=>
  rw[hf,cond_true] at h
  rw[Nat.eq_of_beq_eq_true hf]
  clear hf
  refine .inl ⟨⟨_,Tryz.func298,by kernel_rfl,by unfold Tryz.f298;decide⟩,fun F m w cargs hm R ha=>?_⟩
  unfold insX at h
  split at h
  rotate_left
  ·cases h
  rename_i s i g
  obtain⟨cs0,zs,hs,ha2,rfl⟩:=cvos_cons_inv ha
  obtain⟨ci,zs,hi,ha3,rfl⟩:=cvos_cons_inv ha2
  obtain⟨cv,zs,hv,ha4,rfl⟩:=cvos_cons_inv ha3
  simp only[cvos,Option.some.injEq] at ha4
  subst ha4
  simp only[cvo,Option.some.injEq] at hi
  subst hi
  obtain⟨av,vc,rfl,hvc,hva,hvs⟩:=slice_sound rfl (.of hv)
  have hva:=hva (by decide)
  obtain⟨vb,voff,sp⟩:=av
  simp only at hvs
  subst hvs
  split at h
  ·-- nil
   rename_i po cap q
   cases hi0:decide (i=0) with
   | false=>rw[hi0] at h;cases h
   | true=>
    rw[hi0,cond_true] at h
    have hi0:i=0:=of_decide_eq_true hi0
    subst hi0
    obtain⟨c,w',m',g1,g2,g3,g4⟩:=appendR R hs hv ⟨_,_,_,_,_,rfl⟩ h
    have hcs:∃ bs,cs0=.slice bs 0 0:=by
     simp only[cvo] at hs
     split at hs
     ·split at hs
      ·cases hs;exact⟨none,rfl⟩
      ·simp only[Option.map_eq_some_iff] at hs;obtain⟨b,_,rfl⟩:=hs;exact⟨some b,rfl⟩
     ·cases hs
    obtain⟨bs,rfl⟩:=hcs
    exact (ins_end bs 0 0 vb voff 1 vc c w w' (by decide) (Nat.le_refl _) (fun _=>⟨rfl,rfl⟩) g1).mono fun e w2 ⟨e1,e2⟩=>by subst e2;exact⟨c,m',e1,g2,g3,g4⟩
  ·-- a slice
   rename_i f u o po len cap q
   obtain⟨sa,cp,rfl,hcp,hsa,hss⟩:=slice_sound rfl (.of hs)
   cases he:decide (i=(len:Int)) with
   | true=>
    rw[he,cond_true] at h
    have he:i=(len:Int):=of_decide_eq_true he
    subst he
    obtain⟨c,w',m',g1,g2,g3,g4⟩:=appendR R hs hv ⟨_,_,_,_,_,rfl⟩ h
    exact (ins_end (some sa) len cp vb voff 1 vc c w w' (by decide) hcp (fun h=>by cases h) g1).mono fun e w2 ⟨e1,e2⟩=>by subst e2;exact⟨c,m',e1,g2,g3,g4⟩
   | false=>
    rw[he,cond_false] at h
    cases hc:decide (0≤i)&&(decide (i<(len:Int))&&(!Nat.beq f g&&(isRw A f&&(isRw A g&&Nat.ble len 1000000)))) with
    | false=>rw[hc] at h;cases h
    | true=>
     rw[hc,cond_true] at h
     simp only[Bool.and_eq_true,decide_eq_true_eq,Bool.not_eq_true',Nat.ble_eq] at hc
     obtain⟨c1,c2,c3,c4,c5,c6⟩:=hc
     obtain⟨k,rfl⟩:=Int.eq_ofNat_of_zero_le c1
     simp only[Int.toNat_natCast] at h
     have hk:k<len:=by omega
     have hfg:f≠g:=fun e=>by rw[e] at c3;simp at c3
     split at h
     rotate_left
     ·cases h
     rename_i nv cs hnv hcs
     cases hfl:(nv++cs).all AV.flat with
     | false=>rw[hfl] at h;cases h
     | true=>
      rw[hfl,cond_true] at h
      have hsa:=hsa (by omega)
      obtain⟨b1,o1,vs,k1,k2,k3,k4⟩:=R.cells hnv
      rw[hva] at k1
      cases k1
      obtain⟨b2,o2,ys,j1,j2,j3,j4⟩:=R.cells hcs
      rw[hsa] at j1
      cases j1
      have one:∀ (l:List AV) (zs:List Value),(∀ a∈l,a∈nv++cs)→cvos m l=some zs→∀ v∈zs,v.oneCell'=true:=fun l zs hl h v hv=>by
       obtain⟨j,hj⟩:=List.mem_iff_getElem?.1 hv
       obtain⟨z,hz,hzv⟩:=cvos_get' h hj
       exact oneCell_of_flat (List.all_eq_true.1 hfl z (hl z (List.mem_of_getElem? hz))) hzv
      have h1v:=one nv vs (fun a h=>List.mem_append_left _ h) k2
      have h1c:=one cs ys (fun a h=>List.mem_append_right _ h) j2
      have hnews:=cvos_append k2 (cvos_drop j2 (k*2))
      have hcl:=qgq j2
      have hvl:=qgq k2
      obtain⟨b,ofs,cp',e1,e2,hcase⟩:=appendC_sound R.drew (cvo_cut hs (i:=k) (by omega)) h hnews (by rw[List.length_append,List.length_drop];omega) (by decide) (by omega)
       (fun v hv=>by
        rcases List.mem_append.1 hv with hv|hv
        ·exact h1v v hv
        ·exact h1c v (List.mem_of_mem_drop hv)) (fun p po' len' cap' q' e=>by cases e;exact⟨len,_,by omega,hs⟩)
      cases e1
      simp only[AV.slen] at hcase e2
      have hnl:(vs++ys.drop (k*2)).length=(len+1 - k)*2:=by rw[List.length_append,List.length_drop];omega
      have hlk:k+(len+1 - k)=len+1:=by omega
      rw[hlk] at hcase
      obtain⟨lf,hlf,hbf⟩:=plc_block hsa
      obtain⟨lg,hlg,hbg⟩:=plc_block hva
      simp only at hbf hbg
      have hne:vb≠b2:=by
       rw[hbf,hbg]
       exact fun e=>R.apart f u lf g 0 lg hlf hlg hfg (rw_of c4) e.symm
      rcases hcase with ⟨g1,g2,m',g3,g4,g5⟩|⟨g1,g2,g3,olds,g4,g5,g6⟩
      ·-- in place
       obtain⟨C1,e1',fz1,hh1,hh2,hh3⟩:=shape_of (k4 0 _ (List.getElem?_eq_getElem (by omega)))
       obtain⟨C2,e2',fz2,hh4,hh5,hh6⟩:=shape_of (j4 0 _ (List.getElem?_eq_getElem (by omega)))
       have hunf:=R.unf g 0 lg hlg (rw_of c5)
       rw[←hbg] at hunf
       have hfz:fz1.1=fz1.2:=by
        rcases hunf _ _ _ hh1 with h|h
        ·exact h
        ·exact absurd rfl h.1
       have hfr:∀ x,w.frozen? ⟨vb,x,none⟩=false:=fun x=>by
        unfold World.frozen?
        rw[hh1]
        obtain⟨z1,z2⟩:=fz1
        simp only at hfz ⊢
        subst hfz
        simp
       refine (ins_shift b2 o2 len cp k vb voff 1 vc ys vs w hk (by decide) g1 (by omega) hne (by omega) (by omega) j4 (fun j hj1 hj2=>?_) (fun j hj1 hj2=>?_) k4 h1c h1v _ _ _ _ hh3 hh6 (by have:=(Array.getElem?_eq_some_iff.1 hh5).1;omega) (hfr _) (hfr _)).mono fun e w' ⟨q1,q2⟩=>?_
       ·have:=(g2 (j - k*2) (by omega)).1
        rwa [Nat.add_assoc,show k*2+(j - k*2)=j by omega] at this
       ·have:=(g2 (j - k*2) (by omega)).2
        rwa [Nat.add_assoc,show k*2+(j - k*2)=j by omega] at this
       ·rw[setCells_join (by omega)] at q2
        subst q2
        exact⟨_,m',q1,g3,g4,g5⟩
      ·-- a new block
       refine (ins_grow b2 o2 len cp k vb voff 1 vc ys vs w hk (by decide) hcp g1 (by omega) (by omega) (by omega) j4 k4 h1c h1v).mono fun e w' ⟨q1,ROW,q2,q3,q4⟩=>?_
       obtain⟨C,hC⟩:∃ C,C=setL ((k+1)*2) (ys.drop (k*2)) (setL (k*2) vs ROW):=⟨_,rfl⟩
       have hw:w'=w.drew.drew.alloc (.cells C 130):=by
        rw[q4,hC,show (w.alloc (.cells ROW 130)).drew=w.drew.alloc (.cells ROW 130) from rfl]
        rw[show (w.drew.alloc (.cells ROW 130)).setCells w.heap.size (k*2) vs=w.drew.alloc (.cells (setL (k*2) vs ROW) 130) from setCells_alloc w.drew ROW 130 (k*2) vs]
        rw[show (w.drew.alloc (.cells (setL (k*2) vs ROW) 130)).drew=w.drew.drew.alloc (.cells (setL (k*2) vs ROW) 130) from rfl]
        exact setCells_alloc w.drew.drew (setL (k*2) vs ROW) 130 ((k+1)*2) (ys.drop (k*2))
       have hge:=grownCap_ge w (len+1) cp 130
       have hG:grownCap w (len+1) cp 130*2≤C.size:=by rw[hC,setL_size,setL_size,q3];exact Nat.le_refl _
       have hCC:∀ (j:Nat) (v:Value),(olds++(vs++ys.drop (k*2)))[j]?=some v→C[j]?=some v:=fun j v hj=>by
        have hj2:j<(olds++(vs++ys.drop (k*2))).length:=(List.getElem?_eq_some_iff.1 hj).1
        rw[List.length_append,hnl,g4] at hj2
        rw[hC,setL_get,setL_get,setL_size,List.length_drop,hvl,q3]
        have hlv:nv.length=2:=by rw[←hvl];exact k3
        by_cases h1:j<k*2
        ·rw[if_neg (by omega),if_neg (by omega)]
         rw[List.getElem?_append_left (by omega)] at hj
         have hw1:=g5 j v hj
         have hjy:j<ys.length:=by omega
         have hw2:=j4 j _ (List.getElem?_eq_getElem hjy)
         rw[show w.drew.cell? ⟨b2,o2+j,none⟩=w.cell? ⟨b2,o2+j,none⟩ from rfl,hw2] at hw1
         cases hw1
         exact q2 j _ (by rw[List.getElem?_take,if_pos h1];exact List.getElem?_eq_getElem hjy)
        ·rw[List.getElem?_append_right (by omega),g4] at hj
         by_cases h2:j<(k+1)*2
         ·rw[if_neg (by omega),if_pos (by omega)]
          rw[List.getElem?_append_left (by omega)] at hj
          exact hj
         ·rw[if_pos (by omega)]
          rw[List.getElem?_append_right (by omega),k3] at hj
          rw[←hj]
          congr 1
          omega
       obtain⟨m',p1,p2,p3⟩:=g6 w.drew.drew C 130 (grownCap w (len+1) cp 130) R.drew.drew hCC hG hge
       subst hw
       exact⟨_,m',q1,p1,p2,p3⟩
  ·cases h
end Go.Proofs.YtlaoookdegmnnaaGreatDoor
namespace Go.AM
theorem Rec.drop {α:Type} {n:Nat} (R:Rec α n) (l:List α) (k:Nat) (hk:k≤l.length):(R.all l).drop (k*n)=R.all (l.drop k):=by
 have h:=R.append (l.take k) (l.drop k)
 rw[List.take_append_drop] at h
 rw[h]
 have hl:=R.length (l.take k)
 rw[List.length_take,Nat.min_eq_left hk] at hl
 exact List.drop_left' hl
theorem isRw_of {A:St} {f:Nat} {all:List AV} {vers:List Ver} {nv:Nat} (h:A.get f=some (.cells all vers nv false)):isRw A f=true:=by
 unfold isRw
 rw[h]
 rfl
end Go.AM
namespace Go.Proofs.YtlaoookdegmnnaaGreatDoor
open Go Go.AM
theorem xins_rows:RowsI XIns:=by
 intro lo lo' A s l i g r hs hv hd hlo hi hl
 have hX:∀ args:List AV,XIns 298 args A=insX args A:=fun args=>rfl
 rw[hX]
 obtain⟨hv2,hvg⟩:A.cells (g,0,0) 2=some (RowR.cells r)∧isRw A g=true:=by
  have hvs:=hv.sl
  generalize RowR.cells r=cc at hv hvs
  refine⟨?_,?_⟩
  ·cases hvs with
   | mem _ hc _=>simpa using hc
  ·cases hv with
   | mem _ _ hg _ _ _ _ _=>exact isRw_of hg
 have hsplit:RowR.all (l.take i++r::l.drop i)=(RowR.all l).take (i*2)++(RowR.cells r++(RowR.all l).drop (i*2)):=by
  rw[RowR.append,RowR.take,RowR.drop l i hi]
  rfl
 have hlen:=hs.sl.length
 rw[RowR.length] at hlen
 obtain⟨cs,hcs⟩:∃ cs,cs=RowR.all l:=⟨_,rfl⟩
 have hfl:=RowR.allFlat l
 rw[←hcs] at hs hsplit hfl
 have hcl:cs.length=l.length*2:=by rw[hcs,RowR.length]
 have hsl:=hs.sl
 have hend:∀ (h:i=l.length),∃ s' B,appendV A false 2 24 s (.slice (some (g,0,0)) 0 1 1 0)=some (s',B)∧AM.Own lo B 2 s' (RowR.all (l.take i++r::l.drop i))∧But A B s∧∀ f,s'.into f=true→s.into f=true∨A.next≤f:=fun h=>by
  have hsv:s.slen=l.length:=by omega
  obtain⟨s',B,h1,h2,h3,h4,h5⟩:=qpq (bytes:=24) hs hv.sl hlo (by decide) (RowR.flat r) (by rw[hsv,qnq];omega) (by rw[hsv,qnq];omega)
  refine⟨s',B,h1,?_,h4,h5⟩
  rw[hsplit,h,←hcl,List.take_length,List.drop_length,List.append_nil]
  exact h3
 cases hs with
 | nil po cap q=>
  have h0:l.length=0:=by have:=hcl;rw[List.length_nil] at this;omega
  have h0i:i=0:=by omega
  obtain⟨s',B,h1,h2⟩:=hend (by omega)
  refine⟨s',B,?_,h2⟩
  subst h0i
  unfold insX
  simpa using h1
 | @mem f u o po len cap q all vers nv y hlo' hf' hg hvv h1 h2 h3 hq=>
  simp only[AV.slen] at hlen
  have hll:l.length=len:=by omega
  by_cases he:i=len
  ·obtain⟨s',B,g1,g2⟩:=hend (by omega)
   refine⟨s',B,?_,g2⟩
   subst he
   unfold insX
   simpa using g1
  ·have hcells:A.cells (f,u,o) (len*2)=some ((all.drop o).take (len*2)):=by
    cases hsl with
    | mem _ hc _=>exact hc
   have hfg:Nat.beq f g=false:=by
    cases hb:Nat.beq f g with
    | false=>rfl
    | true=>exact absurd (Nat.eq_of_beq_eq_true hb) (hd f (by simp[AV.into]))
   have hcond:(decide (0≤(i:Int))&&(decide ((i:Int)<(len:Int))&&(!Nat.beq f g&&(isRw A f&&(isRw A g&&Nat.ble len 1000000)))))=true:=by
    rw[hfg,isRw_of hg,hvg]
    simp only[Bool.and_eq_true,decide_eq_true_eq,Bool.not_false,Nat.ble_eq]
    exact⟨by omega,by omega,trivial,trivial,trivial,by omega⟩
   have hne:decide ((i:Int)=(len:Int))=false:=decide_eq_false (by omega)
   have hs1:AM.Own lo A 2 (.slice (some (f,u,o)) po i cap q) ((all.drop o).take (i*2)):=.mem hlo' hf' hg hvv h1 (by omega) h3 (hq.imp (fun h=>⟨h.1,by omega,h.2.2⟩) id)
   have hfl2:(RowR.cells r++(all.drop o).take (len*2)).all AV.flat=true:=by
    rw[List.all_append,RowR.flat r,hfl]
    rfl
   have hdl:(RowR.cells r++((all.drop o).take (len*2)).drop (i*2)).length=(len+1 - i)*2:=by
    rw[List.length_append,RowR.len,List.length_drop,hcl]
    omega
   have hdf:(RowR.cells r++((all.drop o).take (len*2)).drop (i*2)).all AV.flat=true:=by
    rw[List.all_append,RowR.flat r,Bool.true_and,List.all_eq_true]
    exact fun x hx=>List.all_eq_true.1 hfl x (List.mem_of_mem_drop hx)
   obtain⟨s',B,g1,g2,g3,g4,g5⟩:=own_appendC (bytes:=24) (n:=len+1 - i) hs1 hdl hlo (by decide) hdf (by omega) (by omega)
   refine⟨s',B,?_,?_,⟨g4.next,fun x hx hi=>g4.get x hx (by simpa[AV.into] using hi)⟩,fun x hx=>by simpa[AV.into] using g5 x hx⟩
   ·unfold insX
    simp only[hne,cond_false,hcond,cond_true,hv2,hcells,hfl2,Int.toNat_natCast]
    exact g1
   ·rw[hsplit,List.take_take,Nat.min_eq_left (by omega)]
    exact g3
def XF:Calls':=orX XSeg (orX XIns XB)
theorem xf_ok:GSound Tryz.prog M0 XF:=orX_sound xseg_ok (orX_sound xins_ok xb_ok)
theorem xf_b {f:FuncId} {args:List AV} {A:St} (h1:Nat.beq f 84=false) (h2:Nat.beq f 298=false):XF f args A=XB f args A:=by
 unfold XF orX XSeg XIns
 rw[h1,h2]
 rfl
theorem xb_k {f:FuncId} {args:List AV} {A:St} (h1:nowhereG A0 GA (fun f=>Nat.beq f 17) f args A=none) (h2:errX ET A0 GA (fun n=>Nat.beq n 67) f args A=none):XB f args A=XK f args A:=by
 unfold XB orX
 rw[h1,h2]
theorem xf_rowsX:RowsX XF A0 where
 code:=fun h he=>by rw[xf_b rfl rfl];exact xb_code h.get he
 segs:=fun h ht=>by
  obtain⟨r,B,h1,h2⟩:=xseg_segs ht
  exact⟨r,B,by unfold XF orX;rw[h1],h2⟩
theorem xf_rowsC:RowsC XF:=fun a c A=>by
 rw[xf_b rfl rfl,xb_k rfl rfl]
 exact xk_cmp a c A
theorem xf_rowsI:RowsI XF:=fun {lo lo' A s l i g r} hs hv hd hlo hi hl=>by
 obtain⟨s',B,h1,h2⟩:=xins_rows hs hv hd hlo hi hl
 refine⟨s',B,?_,h2⟩
 unfold XF orX
 rw[show XSeg 298 [s,.int .i64 i,.slice (some (g,0,0)) 0 1 1 0] A=none from rfl,h1]
theorem xf_rowsK:RowsK XF:=fun hp h hl hk=>by
 obtain⟨r,B,h1,h2⟩:=xk_keys hp h hl hk
 exact⟨r,B,by rw[xf_b rfl rfl,xb_k rfl rfl];exact h1,h2⟩
theorem xf_awake:∀ A,A0.Ext A→∃ B,XF 17 [] A=some (.bool true,B):=fun A h=>⟨A,by rw[xf_b rfl rfl];exact xb_awake h.get⟩
open Go
theorem mainSum:Tryz.prog.mainIs=some (true, "bdda14d95cde71930ae856eeaef3a23b854bbf784dccab9cdc89e2a69128bb5a".toList):=by kernel_rfl
theorem looksT:true=Tryz.prog.looks []:=by kernel_rfl
open Go Go.AM
theorem fnsL_comp:∀ f afn,fnsL f=some afn→∃ fn,Tryz.prog.funcs[f]?=some fn∧compFn Tryz.prog fn=some afn∧fn.name ≠ "runtime.NumGoroutine":=fun f afn h=>by
 unfold fnsL at h
 cases hb:(Nat.beq f 67||(Nat.beq f 84||(Nat.beq f 156||(Nat.beq f 298||Nat.beq f 17)))) with
 | true=>rw[hb] at h;cases h
 | false=>rw[hb] at h;exact fns_ok f afn h
theorem rowsX_at {A:St} (h:A0.Ext A):RowsX XF A where
 code:=fun h2 he=>xf_rowsX.code (h.trans h2) he
 segs:=fun h2 ht=>xf_rowsX.segs (h.trans h2) ht
theorem awake_at {A:St} (h:A0.Ext A):∀ B,A.Ext B→∃ C,XF 17 [] B=some (.bool true,C):=fun B h2=>xf_awake B (h.trans h2)
open Go Go.AM Go.ChangeShapes
theorem hopT:HopT Tryz.prog 38 44 42 138 47 134 39 3 9:=
 ⟨Tryz.underlying38,by kernel_rfl,⟨_,Tryz.underlying44,rfl⟩,Tryz.underlying42,by kernel_rfl,⟨_,Tryz.underlying138,rfl⟩,Tryz.underlying47,by kernel_rfl,⟨_,_,_,Tryz.underlying134,rfl,Tryz.underlying2,Tryz.underlying4⟩,Tryz.underlying39,by kernel_rfl,Tryz.underlying3,Tryz.underlying9⟩
theorem par3':argOk Tryz.prog 8 3=true∧Tryz.prog.readableRec 3=true∧3<Tryz.prog.types.size:=⟨by kernel_rfl,by kernel_rfl,of_decide_eq_true (by kernel_rfl)⟩
theorem par38:argOk Tryz.prog 8 38=true∧Tryz.prog.readableRec 38=true∧38<Tryz.prog.types.size:=⟨by kernel_rfl,by kernel_rfl,of_decide_eq_true (by kernel_rfl)⟩
theorem par39:argOk Tryz.prog 8 39=true∧Tryz.prog.readableRec 39=true∧39<Tryz.prog.types.size:=⟨by kernel_rfl,by kernel_rfl,of_decide_eq_true (by kernel_rfl)⟩
theorem lasts_at {A:St} (h:A0.Ext A) {seg fuse:Int} {Ls Ks:AV} {ops:List HOp} {keeps:List Int} (hL:OpsC A Ls ops) (hll:ops.length≤maxLen) (hKs:Sl A 1 Ks (keeps.map (AV.int .i64))) (hkp:∀ x∈keeps,x<9223372036854775808) (hkl:keeps.length≤maxLen) (hfu:fuse<9223372036854775808) :
  Ev D0 G0 fnsL XF 4 [.int .i64 seg,Ls,.int .i64 fuse,Ks] A fun r B=>r=.bool true:=
 law4_spec (rowsX_at h) xf_rowsC xf_rowsI xf_rowsK (awake_at h) hL (by unfold maxLen at hll;omega) hKs hkp (by unfold maxLen at hkl;omega) hfu
section
variable {H:Type} {enc:TypeId × Value→H} {P:Program} {w:World} {base:Nat} {spare:Nat→Bool} {held:Bool}
theorem trodAll_four {t1 t2 t3 t4:TypeId} {args:Array Value} {ds:List (DataW H)} {ps:List MemPlace} (h:DataW.TrodAll enc P w base spare held [t1,t2,t3,t4] args.toList ds ps) :
  ∃ v1 v2 v3 v4,∃ d1 d2 d3 d4:DataW H,args=#[v1,v2,v3,v4]∧ds=[d1,d2,d3,d4]:=by
 obtain⟨v1,_,d1,_,_,_,hargs,rfl,rfl,_,h2⟩:=trodAll_cons h
 obtain⟨v2,_,d2,_,_,_,rfl,rfl,rfl,_,h3⟩:=trodAll_cons h2
 obtain⟨v3,_,d3,_,_,_,rfl,rfl,rfl,_,h4⟩:=trodAll_cons h3
 obtain⟨v4,_,d4,_,_,_,rfl,rfl,rfl,_,h5⟩:=trodAll_cons h4
 obtain⟨rfl,rfl,rfl⟩:=trodAll_nil h5
 exact⟨v1,v2,v3,v4,d1,d2,d3,d4,by cases args;simp_all,rfl⟩
end
end Go.Proofs.YtlaoookdegmnnaaGreatDoor
