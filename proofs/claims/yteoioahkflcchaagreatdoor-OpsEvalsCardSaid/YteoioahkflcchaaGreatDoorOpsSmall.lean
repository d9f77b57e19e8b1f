/- The chapter's small functions: which operations there may be. -/
import Derived.Test.YteoioahkflcchaaGreatDoorOpsPure
import Derived.Test.YteoioahkflcchaaGreatDoorOpsCode
import Derived.Test.YteoioahkflcchaaGreatDoorAmBox
namespace Go.Proofs.YteoioahkflcchaaGreatDoor
open Go.AM
set_option maxRecDepth 100000
set_option linter.unusedSimpArgs false
/-- The functions, but for those that have a row. -/
def fnsL (f : Nat) : Option AFn := bif Nat.beq f 12 || Nat.beq f 23 then none else fns f
variable {D : Disp} {G0 : Env} {X : Calls'}

theorem plain_spec {A : St} (o : OpD) : Ev D G0 fnsL X 31 [.agg o.cells] A fun r B => A.Ext B ∧ r = .bool (plainL o) := by
  refine Ev.fnK (fn := a31) rfl ⟨by simp [a31], by decide⟩ ?_
  unfold a31
  obtain ⟨k, s, n, lo⟩ := o
  have hx := ext_make A [.int .i64 k, .str s, .int .i64 n, .int .i64 lo] 1
  by_cases h1 : k = 1
  · by_cases hn : n = 0
    · simp [OpD.cells, boxV, AV.cells, Made.value, AV.addr, plainL, h1, hn, hx] at *
      exact hx
    · simp [OpD.cells, boxV, AV.cells, Made.value, AV.addr, plainL, h1, hn, hx] at *
      exact hx
  by_cases h3 : k = 3
  · by_cases hn : n = 0
    · simp [OpD.cells, boxV, AV.cells, Made.value, AV.addr, plainL, h3, hn, hx] at *
      exact hx
    · simp [OpD.cells, boxV, AV.cells, Made.value, AV.addr, plainL, h3, hn, hx] at *
      exact hx
  by_cases h2 : k = 2
  · simp [OpD.cells, boxV, AV.cells, Made.value, AV.addr, plainL, h2, hx] at *
    exact hx
  by_cases h4 : k = 4
  · simp [OpD.cells, boxV, AV.cells, Made.value, AV.addr, plainL, h4, hx] at *
    exact hx
  by_cases h6 : k = 6
  · simp [OpD.cells, boxV, AV.cells, Made.value, AV.addr, plainL, h6, hx] at *
    exact hx
  by_cases h5 : k = 5
  · simp [OpD.cells, boxV, AV.cells, Made.value, AV.addr, plainL, h5, hx] at *
    exact hx
  · simp [OpD.cells, boxV, AV.cells, Made.value, AV.addr, plainL, h1, h2, h3, h4, h5, h6, hx] at *
    try exact hx
end Go.Proofs.YteoioahkflcchaaGreatDoor
