/- The statement HeapMost: what may be put at most, whatever the sizes that are asked. Nothing is asked of the input. -/
import Derived.Test.YtlaoookdegmnnaaGreatDoorHpLawEnd
import Derived.Test.YtlaoookdegmnnaaGreatDoorHeapMostF1
import Derived.Test.YtlaoookdegmnnaaGreatDoorHeapMostF2
set_option maxRecDepth 100000
namespace Go.Proofs.YtlaoookdegmnnaaGreatDoor
open Go Go.AM Go.ChangeShapes Go.WideShapes Go.ChangeAt Go.RowKit

theorem heapMost_lifted (os : Os) (started : os.Started) (H : Type) (enc : TypeId × Value → H) :
  ReturnsInHanded {} Tryz.checked os 3 .any (fun w args => (Rows.heapMostSpec.pre enc Tryz.prog Tryz.f3 [] false w args ∧ laidMetH Tryz.prog laidL w) ∧ sizedMet enc Tryz.prog Tryz.f3 (OpenSpec.ofChange Rows.heapMostSpec) false w args)
   (Rows.heapMostSpec.post enc Tryz.prog Tryz.f3 false true false false) := by
 refine returnsInHanded_of_change_and (C := Tryz.checked) (X := fun w _ => laidMetH Tryz.prog laidL w) (fun _ _ _ hh h => h.of_heap hh) own started (by kernel_rfl) Tryz.func3
  (ChangeSpec.witness_shaped (enc := enc) (C := Tryz.checked) (os := os) (X := fun w _ => laidMetH Tryz.prog laidL w) false (World.doorLaid Tryz.prog 400 os) #[.int .i64 0, .int .i64 0] 8 rfl (World.shaped_of_RefB (by kernel_rfl) (by kernel_rfl)) (by kernel_rfl) (by kernel_rfl) (by kernel_rfl) (door_met os _)) ?_
 intro W base args ds gs before hval0 hW _ _ hL _
 have hval : ∀ (j : Nat) t v, Tryz.f3.params[j]? = some t → args[j]? = some v → Value.okWide Tryz.prog W .any base t v := hval0
 have hW' := hW
 obtain ⟨p, q, hA0, hV, _, _, _⟩ := hW'
 have hA : DataW.TrodAll enc Tryz.prog W 0 (fun _ => true) true Tryz.f3.params.toList args.toList ds p := hA0
 have hp : Tryz.f3.params.toList = [3, 3] := by rw [Tryz.params3]
 rw [hp] at hA
 obtain ⟨v0, v1, d0, d1, p0, p1, rfl, rfl, h0, h1⟩ := trodAll_two hA
 obtain ⟨rfl, rfl⟩ := trodVars_none hV
 refine law_callsG (P := Tryz.prog) (fn := Tryz.f3) (s := Rows.heapMostSpec) (t := 4) (k := 5) (D := D0) (fns := fnsL) mixed ⟨rfl, few⟩ (start hL) baseOk_one fnsL_comp xf_ok laidOut rfl (by kernel_rfl) Tryz.underlying4 ?_ hval hW rfl ?_
 ·rw [hp]
  intro t ht
  simp only [List.mem_cons, List.not_mem_nil, or_false] at ht
  rcases ht with rfl | rfl <;> exact par3
 ·rw [hp]
  intro A vs hx _ hvs
  match vs, hvs with
  | [a0, a1], ⟨r0, r1, _⟩ =>
   obtain ⟨i0, rfl, _⟩ := argInt Tryz.underlying3 r0
   obtain ⟨i1, rfl, _⟩ := argInt Tryz.underlying3 r1
   exact most_at hx

theorem heapMost_facts : joinedFacts Tryz.prog 3 Tryz.f3 Rows.heapMostSpec Rows.heapMostRow = true := by
 unfold joinedFacts
 simp only [laidOut, mapsRow, noStops, noKnobs, heapMost_inPlace, heapMost_unf, heapMost_rec, heapMost_named, Bool.and_true]
 kernel_rfl
theorem heapMost_said : Rows.HeapMostSaid :=
 OpenClaim.holds_of_wide 3 Tryz.f3 rfl rfl rfl rfl rfl rfl rfl ⟨rfl, rfl, rfl, rfl, rfl⟩ rfl rfl rfl rfl rfl heapMost_no Tryz.func3 heapMost_facts
  (of_decide_eq_true (by kernel_rfl)) (by unfold Func.isWrapper; first | (rw [if_pos (by decide +kernel)]; kernel_rfl) | (rw [if_neg (by decide +kernel)]; exact ⟨rfl, rfl⟩))
  (fun os started H enc _ => heapMost_lifted os started H enc)

theorem heapMost_holds : Rows.HeapMostCardSaid :=
 Claim7.holds_tied_plain_at .later [] [.handle] true (true, "bdda14d95cde71930ae856eeaef3a23b854bbf784dccab9cdc89e2a69128bb5a") true
  heapMost_said (fun _ h => by cases h) (by kernel_rfl) (fun _ h => by cases h) heapMost_row_tie rfl ⟨rfl, rfl⟩ mainSum rfl
  (fun f fn hf hfn => by
   obtain rfl : f = 3 := Option.some.inj (heapMost_no.symm.trans hf) |>.symm
   obtain rfl : fn = Tryz.f3 := (Option.some.inj (Tryz.func3.symm.trans hfn)).symm
   exact ⟨looksT, fun j t ht => by
    rw [Tryz.params3] at ht
    have h3 : t = 3 := by
     rcases j with _ | _ | j
     ·simpa using ht.symm
     ·simpa using ht.symm
     ·simp at ht
    rw [h3]
    exact (show Tryz.prog.wantsStandIn 3 = false by kernel_rfl)⟩)
  heapMost_goes
end Go.Proofs.YtlaoookdegmnnaaGreatDoor
