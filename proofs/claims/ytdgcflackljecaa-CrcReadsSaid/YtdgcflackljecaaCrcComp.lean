/- The seat's code is the translation of the program's functions. -/
import Derived.Test.YtdgcflackljecaaProg
import Derived.Test.YtdgcflackljecaaCrcCode
import Derived.Test.YtdgcflackljecaaAmRun
import Derived.KernelRfl
namespace Go.Proofs.Ytdgcflackljecaa
open Go.AM
set_option maxRecDepth 100000
theorem c3 : compFn Try.prog Try.f3 = some a3 := by kernel_rfl
theorem c4 : compFn Try.prog Try.f4 = some a4 := by kernel_rfl
theorem c5 : compFn Try.prog Try.f5 = some a5 := by kernel_rfl
theorem c6 : compFn Try.prog Try.f6 = some a6 := by kernel_rfl
theorem c7 : compFn Try.prog Try.f7 = some a7 := by kernel_rfl
theorem c8 : compFn Try.prog Try.f8 = some a8 := by kernel_rfl
theorem c9 : compFn Try.prog Try.f9 = some a9 := by kernel_rfl
theorem c10 : compFn Try.prog Try.f10 = some a10 := by kernel_rfl
theorem c11 : compFn Try.prog Try.f11 = some a11 := by kernel_rfl
theorem c12 : compFn Try.prog Try.f12 = some a12 := by kernel_rfl
theorem c13 : compFn Try.prog Try.f13 = some a13 := by kernel_rfl
theorem c14 : compFn Try.prog Try.f14 = some a14 := by kernel_rfl
theorem c15 : compFn Try.prog Try.f15 = some a15 := by kernel_rfl
theorem c16 : compFn Try.prog Try.f16 = some a16 := by kernel_rfl
theorem c17 : compFn Try.prog Try.f17 = some a17 := by kernel_rfl
theorem c18 : compFn Try.prog Try.f18 = some a18 := by kernel_rfl
theorem c19 : compFn Try.prog Try.f19 = some a19 := by kernel_rfl
theorem c20 : compFn Try.prog Try.f20 = some a20 := by kernel_rfl
theorem fns_ok : ∀ f afn, fns f = some afn → ∃ fn, Try.prog.funcs[f]? = some fn ∧ compFn Try.prog fn = some afn ∧ fn.name ≠ "runtime.NumGoroutine" := by
  intro f afn h
  unfold fns at h
  split at h
  · cases h; exact ⟨_, Try.func3, c3, by unfold Try.f3; decide⟩
  · cases h; exact ⟨_, Try.func4, c4, by unfold Try.f4; decide⟩
  · cases h; exact ⟨_, Try.func5, c5, by unfold Try.f5; decide⟩
  · cases h; exact ⟨_, Try.func6, c6, by unfold Try.f6; decide⟩
  · cases h; exact ⟨_, Try.func7, c7, by unfold Try.f7; decide⟩
  · cases h; exact ⟨_, Try.func8, c8, by unfold Try.f8; decide⟩
  · cases h; exact ⟨_, Try.func9, c9, by unfold Try.f9; decide⟩
  · cases h; exact ⟨_, Try.func10, c10, by unfold Try.f10; decide⟩
  · cases h; exact ⟨_, Try.func11, c11, by unfold Try.f11; decide⟩
  · cases h; exact ⟨_, Try.func12, c12, by unfold Try.f12; decide⟩
  · cases h; exact ⟨_, Try.func13, c13, by unfold Try.f13; decide⟩
  · cases h; exact ⟨_, Try.func14, c14, by unfold Try.f14; decide⟩
  · cases h; exact ⟨_, Try.func15, c15, by unfold Try.f15; decide⟩
  · cases h; exact ⟨_, Try.func16, c16, by unfold Try.f16; decide⟩
  · cases h; exact ⟨_, Try.func17, c17, by unfold Try.f17; decide⟩
  · cases h; exact ⟨_, Try.func18, c18, by unfold Try.f18; decide⟩
  · cases h; exact ⟨_, Try.func19, c19, by unfold Try.f19; decide⟩
  · cases h; exact ⟨_, Try.func20, c20, by unfold Try.f20; decide⟩
  · cases h
end Go.Proofs.Ytdgcflackljecaa
