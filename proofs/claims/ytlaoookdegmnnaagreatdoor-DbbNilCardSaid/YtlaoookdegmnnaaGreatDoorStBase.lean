/- The storage seat: what its laws start from: the variable of the library that the rows list; the rows of the library's own functions. -/
import Derived.Test.YtlaoookdegmnnaaGreatDoorChecked
import Derived.Test.YtlaoookdegmnnaaGreatDoorTie
import Derived.Test.YtlaoookdegmnnaaGreatDoorCards
import Derived.Test.YtlaoookdegmnnaaGreatDoorStoreRefl
import Derived.Test.YtlaoookdegmnnaaGreatDoorAmErr
import Derived.Test.YtlaoookdegmnnaaGreatDoorAmExt
import Derived.Test.YtlaoookdegmnnaaGreatDoorAmLaid
import Derived.Test.YtlaoookdegmnnaaGreatDoorAmArg
import Derived.Test.YtlaoookdegmnnaaGreatDoorAmRows
import Derived.Test.YtlaoookdegmnnaaGreatDoorStFacts
import Derived.ProofKit
import Derived.LaidMore
import Derived.OpenShut
import Derived.Stop.Joined
import Derived.SevenTiedAt
namespace Go.Proofs.YtlaoookdegmnnaaGreatDoor
open Go Go.AM Go.ChangeShapes Go.WideShapes Go.ChangeAt Go.RowKit
set_option maxRecDepth 100000

theorem mixed : Tryz.prog.follows .mixedOrders = true := Checked.mixed Tryz.checked
theorem few : Tryz.prog.funcs.size ≤ yieldId := Nat.le_of_ble_eq_true (by kernel_rfl)
def D0 : Disp := fun _ _ => none
def errT : List AV := [.iface 430 (.agg [.ty 2 119])]
noncomputable def M0 : Mu := mu1 Tryz.prog 0 1
def A0 : St := st1 errT
def G0 : Env := env1 0
def XL : Calls' := fun f args A => match f with
  | 411 => compareX args A
  | _ => reflX f args A
theorem xl_ok (M0 : Mu) : GSound Tryz.prog M0 XL := fun f args A r B h => by
  unfold XL at h
  split at h
  · exact .inr fun F m w cargs _ R hc => compare_ok Tryz.func411 (by kernel_rfl) (by kernel_rfl) (by kernel_rfl) (by kernel_rfl) h R hc
  · exact reflX_ok _ _ _ _ _ h
theorem base_of {fns : Nat → Option AFn} (h : ∀ f afn, fns f = some afn → ∃ fn, Tryz.prog.funcs[f]? = some fn ∧ compFn Tryz.prog fn = some afn ∧ fn.name ≠ "runtime.NumGoroutine") : Base Tryz.prog M0 G0 fns XL :=
  ⟨mixed, ⟨rfl, few⟩, baseOk_one, h, xl_ok M0⟩
def isT : Option (AV × St) → Bool
  | some (.bool true, _) => true
  | _ => false
theorem globOk : GlobOk M0 A0 := globOk_one (g := 0) (cs := errT) (by kernel_rfl)
theorem globInp : GlobInp M0 A0 := globInp_one (g := 0) (cs := errT) (by kernel_rfl)

theorem own : ownKnob Tryz.prog.godebug = none := by kernel_rfl
def laidL : List (String × DataW Unit) := [("errors.errorType", Rows.laid_errors_errorType)]
theorem door_met (os : Os) (args : Array Value) : laidMetH Tryz.prog laidL ((World.doorLaid Tryz.prog 400 os).forCall (fun _ _ => 0) ⟨#[], args, []⟩).memory :=
  laidMetH_of_parts3 (fuel := 8) (laidMet_of_run' 8 (by kernel_rfl) (by kernel_rfl)) (by kernel_rfl) (by kernel_rfl)
theorem split_H : laidL.filter (fun x => x.2.handleName?.isSome) = laidL := by kernel_rfl
theorem start {W : World} (h : laidMetH Tryz.prog laidL W) : Inp W M0 A0 := by
  have h2 : handlesMet Tryz.prog laidL W := by
    unfold laidMetH at h
    rw [split_H] at h
    exact h.2
  obtain ⟨g3, g4⟩ := handle_cell (ty := 119) (rt := 430) (sz := Tryz.prog.types.size) (ng := 2) h2 (List.mem_singleton.2 rfl) (by kernel_rfl : Tryz.prog.globalNamed "errors.errorType" = some 0) (by kernel_rfl) rfl (by kernel_rfl) (by kernel_rfl)
  refine inp_one (cs := errT) (ys := [.iface 430 (.agg #[.pointer (some ⟨2, 119, none⟩)])]) rfl g3 (fun i y hy => ?_)
  cases i with
  | zero => simp at hy; subst hy; exact g4
  | succ i => simp at hy
theorem opT65 : OpT Tryz.prog 65 := ⟨⟨_, _, _, _, _, Tryz.underlying65, rfl, Tryz.underlying3, Tryz.underlying9, Tryz.underlying3, Tryz.underlying3⟩⟩
theorem par3 : argOk Tryz.prog 5 3 = true ∧ Tryz.prog.readableRec 3 = true ∧ 3 < Tryz.prog.types.size := ⟨by kernel_rfl, by kernel_rfl, of_decide_eq_true (by kernel_rfl)⟩
theorem par65 : argOk Tryz.prog 5 65 = true ∧ Tryz.prog.readableRec 65 = true ∧ 65 < Tryz.prog.types.size := ⟨by kernel_rfl, by kernel_rfl, of_decide_eq_true (by kernel_rfl)⟩
end Go.Proofs.YtlaoookdegmnnaaGreatDoor
