/- The statement OpsUndoes: what takes back what others did, the inverse, and the keys are as the chapter says. Nothing is asked of the input. -/
import Derived.Test.YteoioahkflcchaaGreatDoorOpsRowL
import Derived.Test.YteoioahkflcchaaGreatDoorOpsLaw6
namespace Go.Proofs.YteoioahkflcchaaGreatDoor
open Go Go.AM Go.ChangeShapes Go.WideShapes Go.ChangeAt Go.RowKit
set_option maxRecDepth 100000

theorem opsUndoes_lifted (os : Os) (started : os.Started) (H : Type) (enc : TypeId × Value → H) :
    ReturnsInHanded {} Tryz.checked os 6 .any (fun w args => (Rows.opsUndoesSpec.pre enc Tryz.prog Tryz.f6 [] false w args ∧ laidMetH Tryz.prog laidL w) ∧ sizedMet enc Tryz.prog Tryz.f6 (OpenSpec.ofChange Rows.opsUndoesSpec) false w args)
      (Rows.opsUndoesSpec.post enc Tryz.prog Tryz.f6 false true false false) := by
  refine returnsInHanded_of_change_and (C := Tryz.checked) (X := fun w _ => laidMetH Tryz.prog laidL w) (fun _ _ _ hh h => h.of_heap hh) own started (by kernel_rfl) Tryz.func6
    (ChangeSpec.witness_shaped (enc := enc) (C := Tryz.checked) (os := os) (X := fun w _ => laidMetH Tryz.prog laidL w) false (w0 os) #[.slice none 0 0, .slice none 0 0] 8 (w0_os os) (World.shaped_of_ZipB (by kernel_rfl) (by kernel_rfl)) (by kernel_rfl) (by kernel_rfl) (by kernel_rfl) (door_met os _)) ?_
  intro W base args ds gs before hval0 hW _ _ hL _
  have hval : ∀ (j : Nat) t v, Tryz.f6.params[j]? = some t → args[j]? = some v → Value.okWide Tryz.prog W .any base t v := hval0
  have hW' := hW
  obtain ⟨p, q, hA0, hV, _, _, _⟩ := hW'
  have hA : DataW.TrodAll enc Tryz.prog W 0 (fun _ => true) true Tryz.f6.params.toList args.toList ds p := hA0
  have hp : Tryz.f6.params.toList = [24, 24] := by rw [Tryz.params6]
  rw [hp] at hA
  obtain ⟨v0, v1, d0, d1, p0, p1, rfl, rfl, h0, h1⟩ := trodAll_two hA
  obtain ⟨rfl, rfl⟩ := trodVars_none hV
  refine law_callsG (P := Tryz.prog) (fn := Tryz.f6) (s := Rows.opsUndoesSpec) (t := 4) (k := 5) (D := D0) (fns := fnsL) mixed (start hL) (baseOk_two (by decide)) fnsL_comp x6_ok laidOut rfl (by kernel_rfl) Tryz.underlying4 ?_ hval hW rfl ?_
  · rw [hp]
    intro t ht
    simp only [List.mem_cons, List.not_mem_nil, or_false] at ht
    rcases ht with rfl | rfl
    · exact par24
    · exact par24
  · rw [hp]
    intro A vs hA0 _ hvs
    match vs, hvs with
    | [a0, a1], ⟨r0, r1, _⟩ =>
      obtain ⟨l0, ok0, sl0, ll0⟩ := argOps Tryz.underlying24 (by kernel_rfl) opT23 r0
      obtain ⟨l1, ok1, sl1, ll1⟩ := argOps Tryz.underlying24 (by kernel_rfl) opT23 r1
      exact law6 hA0 sl0 sl1

theorem opsUndoes_said : Rows.OpsUndoesSaid :=
  OpenClaim.holds_of_wide 6 Tryz.f6 rfl rfl rfl rfl rfl rfl rfl ⟨rfl, rfl, rfl, rfl, rfl⟩ rfl rfl rfl rfl rfl (by kernel_rfl) Tryz.func6 (by kernel_rfl)
    (of_decide_eq_true (by kernel_rfl)) (by unfold Func.isWrapper; first | (rw [if_pos (by decide +kernel)]; kernel_rfl) | (rw [if_neg (by decide +kernel)]; exact ⟨rfl, rfl⟩))
    (fun os started H enc _ => opsUndoes_lifted os started H enc)

theorem opsUndoes_holds : Rows.OpsUndoesCardSaid :=
  Claim7.holds_tied_plain_at .later [] [.data, .data, .data, .data, .handle, .sentinel, .sentinel, .pinned] true (true, "90ff05651c0d46292d4add71d158cc879a0eb28e623abcf9c3cc5946dba89886") true
    opsUndoes_said (fun _ h => by cases h) (by kernel_rfl) (fun _ h => by cases h) opsUndoes_row_tie rfl ⟨rfl, rfl⟩ (by kernel_rfl) rfl
    (fun f fn hf hfn => by
      obtain rfl : f = 6 := Option.some.inj ((show Tryz.prog.funcNamed "byroad/byroadlaw06.OpsUndoes" = some 6 by kernel_rfl).symm.trans hf) |>.symm
      obtain rfl : fn = Tryz.f6 := (Option.some.inj (Tryz.func6.symm.trans hfn)).symm
      exact ⟨by kernel_rfl, fun j t ht => by
        rw [Tryz.params6] at ht
        have h3 : t = 24 ∨ t = 24 := by
          rcases j with _ | _ | j
          · left; simpa using ht.symm
          · right; simpa using ht.symm
          · simp at ht
        rcases h3 with rfl | rfl
        · exact (show Tryz.prog.wantsStandIn 24 = false by kernel_rfl)
        · exact (show Tryz.prog.wantsStandIn 24 = false by kernel_rfl)⟩)
    (by kernel_rfl)
end Go.Proofs.YteoioahkflcchaaGreatDoor
