/- The statement CrcCuts: of frames one behind the other, cut anywhere, just those are told that are whole. -/
import Derived.Test.YtdgcflackljecaaCrcRow
import Derived.Test.YtdgcflackljecaaCrcLaw8
namespace Go.Proofs.Ytdgcflackljecaa
open Go.AM Go.ChangeShapes Go.WideShapes Go.ChangeAt Go.RowKit
set_option maxRecDepth 100000

theorem crcCuts_lifted (os : Os) (started : os.Started) (H : Type) (enc : TypeId × Value → H) :
    ReturnsInHanded {} Try.checked os 8 .any (Rows.crcCutsSpec.pre6 enc Try.prog Try.f8 Rows.crcCutsRow.domain false) (Rows.crcCutsSpec.post enc Try.prog Try.f8 false true false false) := by
  refine returnsInHanded_of_change (C := Try.checked) own started (by kernel_rfl) Try.func8
    (ChangeSpec.witness6 (enc := enc) (C := Try.checked) false ⟨#[], #[.slice none 0 0, .int .i64 0], []⟩ 8 (by kernel_rfl) (by kernel_rfl) (by kernel_rfl) (by kernel_rfl)) ?_
  intro W base args ds gs before hval0 hW hcnd _
  have hval : ∀ (j : Nat) t v, Try.f8.params[j]? = some t → args[j]? = some v → Value.okWide Try.prog W .any base t v := hval0
  have hW' := hW
  obtain ⟨p, q, hA0, hV, _, _, _⟩ := hW'
  have hA : DataW.TrodAll enc Try.prog W 0 (fun _ => true) true Try.f8.params.toList args.toList ds p := hA0
  have hp : Try.f8.params.toList = [37, 3] := by rw [Try.params8]
  rw [hp] at hA
  obtain ⟨v0, v1, d0, d1, p0, p1, rfl, rfl, rfl, h0, h1⟩ := trodAll_two hA
  obtain ⟨rfl, rfl⟩ := trodVars_none hV
  refine law_calls (fn := Try.f8) (s := Rows.crcCutsSpec) (D := D0) (t := 4) (k := 5) mixed baseOk fns_ok x0 laid rfl (by kernel_rfl) und4 ?_ hval hW rfl ?_
  · rw [hp]
    intro t ht
    simp only [List.mem_cons, List.not_mem_nil, or_false] at ht
    rcases ht with rfl | rfl
    · exact par37
    · exact par3
  · rw [hp]
    intro A vs hvs
    match vs, hvs with
    | [a0, a1], ⟨r0, r1, _⟩ =>
      obtain ⟨ps0, ls0, s0, p0, n0⟩ := parts_of_arg und37 cells22 und22 und5 cells5 r0
      obtain ⟨i1, rfl, _⟩ := int_of_arg und3 r1
      exact law8 s0 p0 n0

theorem crcCuts_holds : Rows.CrcCutsSaid :=
  OpenClaim.holds_of_wide 8 Try.f8 rfl rfl rfl rfl rfl rfl rfl ⟨rfl, rfl, rfl, rfl, rfl⟩ rfl rfl rfl rfl rfl (by kernel_rfl) Try.func8 (by kernel_rfl)
    (of_decide_eq_true (by kernel_rfl)) (by unfold Func.isWrapper; first | (rw [if_pos (by decide +kernel)]; kernel_rfl) | (rw [if_neg (by decide +kernel)]; exact ⟨rfl, rfl⟩))
    (fun os started H enc _ => crcCuts_lifted os started H enc)
end Go.Proofs.Ytdgcflackljecaa
