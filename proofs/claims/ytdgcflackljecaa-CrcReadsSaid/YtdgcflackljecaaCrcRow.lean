/- What all the laws of the seat share: the program's own facts. -/
import Derived.Test.YtdgcflackljecaaRows
import Derived.Test.YtdgcflackljecaaChecked
import Derived.Test.YtdgcflackljecaaCrcComp
import Derived.Test.YtdgcflackljecaaCrcArg
import Derived.ProofKit
namespace Go.Proofs.Ytdgcflackljecaa
open Go.AM Go.ChangeShapes Go.WideShapes Go.ChangeAt Go.RowKit
set_option maxRecDepth 100000

theorem own : ownKnob Try.prog.godebug = none := by kernel_rfl
theorem laid : laidOutB Try.prog = true := by kernel_rfl
theorem mixed : Try.prog.follows .mixedOrders = true := Checked.mixed Try.checked
theorem baseOk : BaseOk muNone (T.nil : Env) := ⟨fun _ _ => rfl, fun g => by
  show slotR muNone (Env.at T.nil (1000000 + g)) _
  rw [at_nil]
  exact .inl rfl⟩
def X0 : Calls' := fun _ _ _ => none
theorem x0 : GSound Try.prog muNone X0 := fun f args A r B h => by cases h
def D0 : Disp := fun _ _ => none
theorem und3 : Try.prog.underlying 3 = some (.int .i64) := by kernel_rfl
theorem und4 : Try.prog.underlying 4 = some .bool := by kernel_rfl
theorem und5 : Try.prog.underlying 5 = some (.int .u8) := by kernel_rfl
theorem und22 : Try.prog.underlying 22 = some (.slice 5) := by kernel_rfl
theorem und37 : Try.prog.underlying 37 = some (.slice 22) := by kernel_rfl
theorem cells5 : Try.prog.cellsOf 5 = 1 := by kernel_rfl
theorem cells22 : Try.prog.cellsOf 22 = 1 := by kernel_rfl
theorem par3 : argOk Try.prog 5 3 = true ∧ Try.prog.readableRec 3 = true ∧ 3 < Try.prog.types.size := ⟨by kernel_rfl, by kernel_rfl, of_decide_eq_true (by kernel_rfl)⟩
theorem par5 : argOk Try.prog 5 5 = true ∧ Try.prog.readableRec 5 = true ∧ 5 < Try.prog.types.size := ⟨by kernel_rfl, by kernel_rfl, of_decide_eq_true (by kernel_rfl)⟩
theorem par22 : argOk Try.prog 5 22 = true ∧ Try.prog.readableRec 22 = true ∧ 22 < Try.prog.types.size := ⟨by kernel_rfl, by kernel_rfl, of_decide_eq_true (by kernel_rfl)⟩
theorem par37 : argOk Try.prog 5 37 = true ∧ Try.prog.readableRec 37 = true ∧ 37 < Try.prog.types.size := ⟨by kernel_rfl, by kernel_rfl, of_decide_eq_true (by kernel_rfl)⟩
end Go.Proofs.Ytdgcflackljecaa
