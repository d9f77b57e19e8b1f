/- The functions of the laws are the program's. -/
import Derived.Test.YteoioahkflcchaaGreatDoorOpsRow
import Derived.Test.YteoioahkflcchaaGreatDoorOpsSmall
namespace Go.Proofs.YteoioahkflcchaaGreatDoor
open Go Go.AM
set_option maxRecDepth 100000
theorem fnsL_comp : ∀ f afn, fnsL f = some afn → ∃ fn, Tryz.prog.funcs[f]? = some fn ∧ compFn Tryz.prog fn = some afn ∧ fn.name ≠ "runtime.NumGoroutine" := fun f afn hf => fns_ok f afn (by
  unfold fnsL at hf
  cases hc : Nat.beq f 12 || Nat.beq f 23 with
  | true => rw [hc] at hf; cases hf
  | false => rw [hc] at hf; exact hf)
end Go.Proofs.YteoioahkflcchaaGreatDoor
