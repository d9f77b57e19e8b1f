/- The statement CrcReads: with which frames any bytes begin, and whether they are just one, is told as the chapter says. -/
import Derived.Test.YtdgcflackljecaaCrcRow
import Derived.Test.YtdgcflackljecaaCrcLaw7
namespace Go.Proofs.Ytdgcflackljecaa
open Go.AM Go.ChangeShapes Go.WideShapes Go.ChangeAt Go.RowKit
set_option maxRecDepth 100000

theorem crcReads_lifted (os : Os) (started : os.Started) (H : Type) (enc : TypeId × Value → H) :
    ReturnsInHanded {} Try.checked os 7 .any (Rows.crcReadsSpec.pre6 enc Try.prog Try.f7 Rows.crcReadsRow.domain false) (Rows.crcReadsSpec.post enc Try.prog Try.f7 false true false false) := by
  refine returnsInHanded_of_change (C := Try.checked) own started (by kernel_rfl) Try.func7
    (ChangeSpec.witness6 (enc := enc) (C := Try.checked) false ⟨#[], #[.slice none 0 0, .slice none 0 0, .int .i64 0, .int .u8 0], []⟩ 8 (by kernel_rfl) (by kernel_rfl) (by kernel_rfl) (by kernel_rfl)) ?_
  intro W base args ds gs before hval0 hW hcnd _
  have hval : ∀ (j : Nat) t v, Try.f7.params[j]? = some t → args[j]? = some v → Value.okWide Try.prog W .any base t v := hval0
  have hW' := hW
  obtain ⟨p, q, hA0, hV, _, _, _⟩ := hW'
  have hA : DataW.TrodAll enc Try.prog W 0 (fun _ => true) true Try.f7.params.toList args.toList ds p := hA0
  have hp : Try.f7.params.toList = [37, 22, 3, 5] := by rw [Try.params7]
  rw [hp] at hA
  obtain ⟨v0, v1, v2, v3, d0, d1, d2, d3, p0, p1, p2, p3, rfl, rfl, rfl, h0, h1, h2, h3⟩ := trodAll_four hA
  obtain ⟨rfl, rfl⟩ := trodVars_none hV
  refine law_calls (fn := Try.f7) (s := Rows.crcReadsSpec) (D := D0) (t := 4) (k := 5) mixed baseOk fns_ok x0 laid rfl (by kernel_rfl) und4 ?_ hval hW rfl ?_
  · rw [hp]
    intro t ht
    simp only [List.mem_cons, List.not_mem_nil, or_false] at ht
    rcases ht with rfl | rfl | rfl | rfl
    · exact par37
    · exact par22
    · exact par3
    · exact par5
  · rw [hp]
    intro A vs hvs
    match vs, hvs with
    | [a0, a1, a2, a3], ⟨r0, r1, r2, r3, _⟩ =>
      obtain ⟨ps0, ls0, s0, p0, n0⟩ := parts_of_arg und37 cells22 und22 und5 cells5 r0
      obtain ⟨l1, h1l⟩ := bs_of_arg und22 und5 cells5 r1
      obtain ⟨i2, rfl, _⟩ := int_of_arg und3 r2
      obtain ⟨i3, rfl, b3⟩ := int_of_arg und5 r3
      exact law7 s0 p0 n0 h1l b3

theorem crcReads_holds : Rows.CrcReadsSaid :=
  OpenClaim.holds_of_wide 7 Try.f7 rfl rfl rfl rfl rfl rfl rfl ⟨rfl, rfl, rfl, rfl, rfl⟩ rfl rfl rfl rfl rfl (by kernel_rfl) Try.func7 (by kernel_rfl)
    (of_decide_eq_true (by kernel_rfl)) (by unfold Func.isWrapper; first | (rw [if_pos (by decide +kernel)]; kernel_rfl) | (rw [if_neg (by decide +kernel)]; exact ⟨rfl, rfl⟩))
    (fun os started H enc _ => crcReads_lifted os started H enc)
end Go.Proofs.Ytdgcflackljecaa
