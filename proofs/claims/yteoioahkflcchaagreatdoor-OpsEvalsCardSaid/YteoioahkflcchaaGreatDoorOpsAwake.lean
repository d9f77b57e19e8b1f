/- The example of the chapter, run once; the library's rows. -/
import Derived.Test.YteoioahkflcchaaGreatDoorChecked
import Derived.Test.YteoioahkflcchaaGreatDoorOpsComp
import Derived.Test.YteoioahkflcchaaGreatDoorOpsJoin
import Derived.Test.YteoioahkflcchaaGreatDoorAmLaid
import Derived.Test.YteoioahkflcchaaGreatDoorOpsRefl
namespace Go.Proofs.YteoioahkflcchaaGreatDoor
open Go.AM
set_option maxRecDepth 100000

theorem mixed : Tryz.prog.follows .mixedOrders = true := Checked.mixed Tryz.checked
def D0 : Disp := fun _ _ => none
/-- The powers of ten, a table of the library. -/
def pows : List AV := [.int .u64 1, .int .u64 10, .int .u64 100, .int .u64 1000, .int .u64 10000, .int .u64 100000, .int .u64 1000000, .int .u64 10000000, .int .u64 100000000, .int .u64 1000000000, .int .u64 10000000000, .int .u64 100000000000, .int .u64 1000000000000,
  .int .u64 10000000000000, .int .u64 100000000000000, .int .u64 1000000000000000, .int .u64 10000000000000000, .int .u64 100000000000000000, .int .u64 1000000000000000000, .int .u64 10000000000000000000]
def errT : List AV := [.iface 148 (.agg [.ty 9 60])]
def M0 : Mu := mu2 2 20 0 1
def A0 : St := st2 pows errT
def G0 : Env := env2 2 0
def XL : Calls' := fun f args A => match f with
  | 53 => joinX args A
  | 107 => countX args A
  | 132 => indexX args A
  | _ => reflX f args A
theorem xl_ok (M0 : Mu) : GSound Tryz.prog M0 XL := fun f args A r B h => by
  unfold XL at h
  split at h
  · exact .inl ⟨⟨_, Tryz.func53, by kernel_rfl, by unfold Tryz.f53; decide⟩, fun F m w cargs _ R hc => join_ok Tryz.strings_Join_none (fun bk o c xs sep w h1 h2 h3 h4 h5 => Tryz.strings_Join bk o c xs sep w h1 h2 h3 h4 h5) h R hc⟩
  · exact .inr fun F m w cargs _ R hc => count_ok Tryz.func107 (by kernel_rfl) (by kernel_rfl) (by kernel_rfl) (by kernel_rfl) h R hc
  · exact .inr fun F m w cargs _ R hc => index_ok Tryz.func132 (by kernel_rfl) (by kernel_rfl) (by kernel_rfl) (by kernel_rfl) h R hc
  · exact reflX_ok _ _ _ _ _ h
theorem baseL : Base Tryz.prog M0 G0 fns XL := ⟨mixed, baseOk_two (by decide), fns_ok, xl_ok M0⟩
def isT : Option (AV × St) → Bool
  | some (.bool true, _) => true
  | _ => false
def GA : Calls' := callsN D0 G0 fns (fun n => Nat.beq n 23) XL 60
theorem awake_run : isT (GA 12 [] A0) = true := by kernel_rfl
/-- The row of the example. -/
def XA : Calls' := nowhereG A0 GA (fun n => Nat.beq n 12)
theorem ga_ok : GSound Tryz.prog M0 GA := callsN_sound baseL _ 60
theorem xa_ok : GSound Tryz.prog M0 XA := nowhereG_sound ga_ok (globOk_two (g := 2) (h := 0) (cs := pows) (ds := errT) (by decide) (by kernel_rfl) (by kernel_rfl)) _
theorem xa_true {A : St} (hs : ∀ f, f < A0.next → A.get f = A0.get f) : XA 12 [] A = some (.bool true, A) := by
  have h := awake_run
  unfold isT at h
  split at h
  · rename_i B hB
    exact nowhereG_of (by kernel_rfl) rfl hs (by kernel_rfl) hB rfl
  · cases h
end Go.Proofs.YteoioahkflcchaaGreatDoor
