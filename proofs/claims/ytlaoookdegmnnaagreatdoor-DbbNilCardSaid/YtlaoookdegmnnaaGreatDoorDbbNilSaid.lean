/- The statement DbbNil: a site that is not there, and a tape, answer ErrNil: the law, run once: what comes in is never looked at. -/
import Derived.Test.YtlaoookdegmnnaaGreatDoorDbbNilRun
import Derived.Test.YtlaoookdegmnnaaGreatDoorStFacts2
import Derived.Test.YtlaoookdegmnnaaGreatDoorDbbNilF1
import Derived.Test.YtlaoookdegmnnaaGreatDoorDbbNilF2
namespace Go.Proofs.YtlaoookdegmnnaaGreatDoor
open Go Go.AM Go.ChangeShapes Go.WideShapes Go.ChangeAt Go.RowKit
set_option maxRecDepth 100000

theorem dbbNil_lifted (os : Os) (started : os.Started) (H : Type) (enc : TypeId × Value → H) :
    ReturnsInHanded {} Tryz.checked os 9 .any (fun w args => (Rows.dbbNilSpec.pre enc Tryz.prog Tryz.f9 [] false w args ∧ laidMetH Tryz.prog laidL w) ∧ sizedMet enc Tryz.prog Tryz.f9 (OpenSpec.ofChange Rows.dbbNilSpec) false w args)
      (Rows.dbbNilSpec.post enc Tryz.prog Tryz.f9 false true false false) := by
  refine returnsInHanded_of_change_and (C := Tryz.checked) (X := fun w _ => laidMetH Tryz.prog laidL w) (fun _ _ _ hh h => h.of_heap hh) own started (by kernel_rfl) Tryz.func9
    (ChangeSpec.witness_shaped (enc := enc) (C := Tryz.checked) (os := os) (X := fun w _ => laidMetH Tryz.prog laidL w) false (World.doorLaid Tryz.prog 400 os) #[.int .i64 0, .agg #[.int .i64 0, .string ⟨#[]⟩, .int .i64 0, .int .i64 0]] 8 rfl (World.shaped_of_RefB (by kernel_rfl) (by kernel_rfl)) (by kernel_rfl) (by kernel_rfl) (by kernel_rfl) (door_met os _)) ?_
  intro W base args ds gs before hval0 hW _ _ hL _
  have hval : ∀ (j : Nat) t v, Tryz.f9.params[j]? = some t → args[j]? = some v → Value.okWide Tryz.prog W .any base t v := hval0
  have hW' := hW
  obtain ⟨p, q, hA0, hV, _, _, _⟩ := hW'
  have hA : DataW.TrodAll enc Tryz.prog W 0 (fun _ => true) true Tryz.f9.params.toList args.toList ds p := hA0
  have hp : Tryz.f9.params.toList = [3, 65] := by rw [Tryz.params9]
  rw [hp] at hA
  obtain ⟨v0, v1, d0, d1, p0, p1, rfl, rfl, h0, h1⟩ := trodAll_two hA
  obtain ⟨rfl, rfl⟩ := trodVars_none hV
  refine law_callsO (P := Tryz.prog) (fn := Tryz.f9) (s := Rows.dbbNilSpec) (t := 4) (k := 5) (start hL) laidOut rfl (by kernel_rfl) Tryz.underlying4 ?_ hval hW rfl ?_
  · rw [hp]
    intro t ht
    simp only [List.mem_cons, List.not_mem_nil, or_false] at ht
    rcases ht with rfl | rfl
    · exact par3
    · exact par65
  · rw [hp]
    intro A vs hx _ hvs
    match vs, hvs with
    | [a0, a1], ⟨r0, r1, _⟩ =>
      obtain ⟨i0, rfl, _⟩ := argInt Tryz.underlying3 r0
      obtain ⟨o, _, rfl⟩ := argOp opT65 r1
      have h := law_run i0 o.kind o.key o.n o.lo
      unfold isT at h
      split at h
      · rename_i B hB
        exact ⟨A, fun m w cargs hm R hc => callsN_from globOk baseA _ ⟨_, rfl⟩ hB rfl rfl (fun f hf => hx.get f hf) hm R hc⟩
      · cases h

theorem dbbNil_facts : joinedFacts Tryz.prog 9 Tryz.f9 Rows.dbbNilSpec Rows.dbbNilRow = true := by
  unfold joinedFacts
  simp only [laidOut, mapsRow, noStops, noKnobs, dbbNil_inPlace, dbbNil_unf, dbbNil_rec, dbbNil_named, Bool.and_true]
  kernel_rfl
theorem dbbNil_said : Rows.DbbNilSaid :=
  OpenClaim.holds_of_wide 9 Tryz.f9 rfl rfl rfl rfl rfl rfl rfl ⟨rfl, rfl, rfl, rfl, rfl⟩ rfl rfl rfl rfl rfl dbbNil_no Tryz.func9 dbbNil_facts
    (of_decide_eq_true (by kernel_rfl)) (by unfold Func.isWrapper; first | (rw [if_pos (by decide +kernel)]; kernel_rfl) | (rw [if_neg (by decide +kernel)]; exact ⟨rfl, rfl⟩))
    (fun os started H enc _ => dbbNil_lifted os started H enc)

theorem dbbNil_holds : Rows.DbbNilCardSaid :=
  Claim7.holds_tied_plain_at .later [] [.handle] true (true, "bdda14d95cde71930ae856eeaef3a23b854bbf784dccab9cdc89e2a69128bb5a") true
    dbbNil_said (fun _ h => by cases h) (by kernel_rfl) (fun _ h => by cases h) dbbNil_row_tie rfl ⟨rfl, rfl⟩ mainSum rfl
    (fun f fn hf hfn => by
      obtain rfl : f = 9 := Option.some.inj (dbbNil_no.symm.trans hf) |>.symm
      obtain rfl : fn = Tryz.f9 := (Option.some.inj (Tryz.func9.symm.trans hfn)).symm
      exact ⟨looksT, fun j t ht => by
        rw [Tryz.params9] at ht
        have h3 : t = 3 ∨ t = 65 := by
          rcases j with _ | _ | j
          · left; simpa using ht.symm
          · right; simpa using ht.symm
          · simp at ht
        rcases h3 with rfl | rfl
        · exact (show Tryz.prog.wantsStandIn 3 = false by kernel_rfl)
        · exact (show Tryz.prog.wantsStandIn 65 = false by kernel_rfl)⟩)
    dbbNil_goes
end Go.Proofs.YtlaoookdegmnnaaGreatDoor
