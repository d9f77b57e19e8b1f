/- The statement HeapLasts: what a heap took lasts, whatever calls are drawn, wherever the power goes. Nothing is asked of the input. -/
import Derived.Test.YtlaoookdegmnnaaGreatDoorHlEnd
import Derived.Test.YtlaoookdegmnnaaGreatDoorHeapLastsF1
import Derived.Test.YtlaoookdegmnnaaGreatDoorHeapLastsF2
set_option maxRecDepth 100000
namespace Go.Proofs.YtlaoookdegmnnaaGreatDoor
open Go Go.AM Go.ChangeShapes Go.WideShapes Go.ChangeAt Go.RowKit

theorem heapLasts_lifted (os:Os) (started:os.Started) (H:Type) (enc:TypeId × Value→H) :
  ReturnsInHanded {} Tryz.checked os 4 .any (fun w args=>(Rows.heapLastsSpec.pre enc Tryz.prog Tryz.f4 [] false w args∧laidMetH Tryz.prog laidL w)∧sizedMet enc Tryz.prog Tryz.f4 (OpenSpec.ofChange Rows.heapLastsSpec) false w args)
   (Rows.heapLastsSpec.post enc Tryz.prog Tryz.f4 false true false false):=by
 refine returnsInHanded_of_change_and (C:=Tryz.checked) (X:=fun w _=>laidMetH Tryz.prog laidL w) (fun _ _ _ hh h=>h.of_heap hh) own started (by kernel_rfl) Tryz.func4
  (ChangeSpec.witness_shaped (enc:=enc) (C:=Tryz.checked) (os:=os) (X:=fun w _=>laidMetH Tryz.prog laidL w) false (World.doorLaid Tryz.prog 400 os) #[.int .i64 0,.slice none 0 0,.int .i64 0,.slice none 0 0] 8 rfl (World.shaped_of_RefB (by kernel_rfl) (by kernel_rfl)) (by kernel_rfl) (by kernel_rfl) (by kernel_rfl) (door_met os _)) ?_
 intro W base args ds gs before hval0 hW _ _ hL _
 have hval:∀ (j:Nat) t v,Tryz.f4.params[j]?=some t→args[j]?=some v→Value.okWide Tryz.prog W .any base t v:=hval0
 have hW':=hW
 obtain⟨p,q,hA0,hV,_,_,_⟩:=hW'
 have hA:DataW.TrodAll enc Tryz.prog W 0 (fun _=>true) true Tryz.f4.params.toList args.toList ds p:=hA0
 have hp:Tryz.f4.params.toList=[3,38,3,39]:=by rw[Tryz.params4]
 rw[hp] at hA
 obtain⟨v0,v1,v2,v3,d0,d1,d2,d3,rfl,rfl⟩:=trodAll_four hA
 obtain⟨rfl,rfl⟩:=trodVars_none hV
 refine law_callsG (P:=Tryz.prog) (fn:=Tryz.f4) (s:=Rows.heapLastsSpec) (t:=4) (k:=8) (D:=D0) (fns:=fnsL) mixed ⟨rfl,few⟩ (start hL) baseOk_one fnsL_comp xf_ok laidOut rfl (by kernel_rfl) Tryz.underlying4 ?_ hval hW rfl ?_
 ·rw[hp]
  intro t ht
  simp only[List.mem_cons,List.not_mem_nil,or_false] at ht
  rcases ht with rfl|rfl|rfl|rfl
  ·exact par3'
  ·exact par38
  ·exact par3'
  ·exact par39
 ·rw[hp]
  intro A vs hx _ hvs
  match vs,hvs with
  | [a0,a1,a2,a3],⟨r0,r1,r2,r3,_⟩=>
   obtain⟨i0,rfl,_⟩:=argInt Tryz.underlying3 r0
   obtain⟨ops,hops,hol⟩:=argHops hopT r1
   obtain⟨i2,rfl,_,h2⟩:=argInt Tryz.underlying3 r2
   obtain⟨ks,hks,hkp,hkl⟩:=argInts hopT r3
   have e:IntKind.i64.max=9223372036854775807:=by decide
   exact lasts_at hx hops hol hks hkp hkl (by omega)

theorem heapLasts_facts:joinedFacts Tryz.prog 4 Tryz.f4 Rows.heapLastsSpec Rows.heapLastsRow=true:=by
 unfold joinedFacts
 simp only[laidOut,mapsRow,noStops,noKnobs,heapLasts_inPlace,heapLasts_unf,heapLasts_rec,heapLasts_named,Bool.and_true]
 kernel_rfl
theorem heapLasts_said:Rows.HeapLastsSaid:=
 OpenClaim.holds_of_wide 4 Tryz.f4 rfl rfl rfl rfl rfl rfl rfl ⟨rfl,rfl,rfl,rfl,rfl⟩ rfl rfl rfl rfl rfl heapLasts_no Tryz.func4 heapLasts_facts
  (of_decide_eq_true (by kernel_rfl)) (by unfold Func.isWrapper;first|(rw[if_pos (by decide +kernel)];kernel_rfl)|(rw[if_neg (by decide +kernel)];exact⟨rfl,rfl⟩))
  (fun os started H enc _=>heapLasts_lifted os started H enc)

theorem heapLasts_holds:Rows.HeapLastsCardSaid:=
 Claim7.holds_tied_plain_at .later [] [.handle] true (true, "bdda14d95cde71930ae856eeaef3a23b854bbf784dccab9cdc89e2a69128bb5a") true
  heapLasts_said (fun _ h=>by cases h) (by kernel_rfl) (fun _ h=>by cases h) heapLasts_row_tie rfl ⟨rfl,rfl⟩ mainSum rfl
  (fun f fn hf hfn=>by
   obtain rfl:f=4:=Option.some.inj (heapLasts_no.symm.trans hf) |>.symm
   obtain rfl:fn=Tryz.f4:=(Option.some.inj (Tryz.func4.symm.trans hfn)).symm
   exact⟨looksT,fun j t ht=>by
    rw[Tryz.params4] at ht
    have h3:t=3∨t=38∨t=39:=by
     rcases j with _|_|_|_|j
     ·left;simpa using ht.symm
     ·right;left;simpa using ht.symm
     ·left;simpa using ht.symm
     ·right;right;simpa using ht.symm
     ·simp at ht
    rcases h3 with rfl|rfl|rfl
    ·exact (show Tryz.prog.wantsStandIn 3=false by kernel_rfl)
    ·exact (show Tryz.prog.wantsStandIn 38=false by kernel_rfl)
    ·exact (show Tryz.prog.wantsStandIn 39=false by kernel_rfl)⟩)
  heapLasts_goes
end Go.Proofs.YtlaoookdegmnnaaGreatDoor
