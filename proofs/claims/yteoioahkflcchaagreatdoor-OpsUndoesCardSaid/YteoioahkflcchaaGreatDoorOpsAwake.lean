/- The example of the chapter, run once; the library's rows. -/
import Derived.Test.YteoioahkflcchaaGreatDoorChecked
import Derived.Test.YteoioahkflcchaaGreatDoorOpsComp
import Derived.Test.YteoioahkflcchaaGreatDoorOpsJoin
import Derived.Test.YteoioahkflcchaaGreatDoorAmErr
import Derived.Test.YteoioahkflcchaaGreatDoorAmRows
import Derived.Test.YteoioahkflcchaaGreatDoorOpsRefl
namespace Go.Proofs.YteoioahkflcchaaGreatDoor
open Go.AM
set_option maxRecDepth 100000

theorem mixed : Tryz.prog.follows .mixedOrders = true := Checked.mixed Tryz.checked
def D0 : Disp := fun _ _ => none
/-- The powers of ten, a table of the library. -/
def pows : List AV := [.int .u64 1, .int .u64 10, .int .u64 100, .int .u64 1000, .int .u64 10000, .int .u64 100000, .int .u64 1000000, .int .u64 10000000, .int .u64 100000000, .int .u64 1000000000, .int .u64 10000000000, .int .u64 100000000000, .int .u64 1000000000000,
  .int .u64 10000000000000, .int .u64 100000000000000, .int .u64 1000000000000000, .int .u64 10000000000000000, .int .u64 100000000000000000, .int .u64 1000000000000000000, .int .u64 10000000000000000000]
def errT : List AV := [.iface 148 (.agg [.ty 9 60])]
def M0 : Mu := mu2 2 20 0 1
def A0 : St := st2 pows errT
def G0 : Env := env2 2 0
def XL : Calls' := fun f args A => match f with
  | 53 => joinX args A
  | 107 => countX args A
  | 132 => indexX args A
  | _ => reflX f args A
theorem xl_ok (M0 : Mu) : GSound Tryz.prog M0 XL := fun f args A r B h => by
  unfold XL at h
  split at h
  · exact .inl ⟨⟨_, Tryz.func53, by kernel_rfl, by unfold Tryz.f53; decide⟩, fun F m w cargs _ R hc => join_ok Tryz.strings_Join_none (fun bk o c xs sep w h1 h2 h3 h4 h5 => Tryz.strings_Join bk o c xs sep w h1 h2 h3 h4 h5) h R hc⟩
  · exact .inr fun F m w cargs _ R hc => count_ok Tryz.func107 (by kernel_rfl) (by kernel_rfl) (by kernel_rfl) (by kernel_rfl) h R hc
  · exact .inr fun F m w cargs _ R hc => index_ok Tryz.func132 (by kernel_rfl) (by kernel_rfl) (by kernel_rfl) (by kernel_rfl) h R hc
  · exact reflX_ok _ _ _ _ _ h
theorem baseL : Base Tryz.prog M0 G0 fns XL := ⟨mixed, baseOk_two (by decide), fns_ok, xl_ok M0⟩
def isT : Option (AV × St) → Bool
  | some (.bool true, _) => true
  | _ => false
def GA : Calls' := callsN D0 G0 fns (fun n => Nat.beq n 23) XL 60
theorem awake_run : isT (GA 12 [] A0) = true := by kernel_rfl
/-- The errors' types. -/
def ET : ErrT := ⟨[(98, 2), (142, 2), (124, 3)], 77⟩
/-- The row of the example; the number of an error. -/
def XA : Calls' := orX (nowhereG A0 GA (fun n => Nat.beq n 12)) (errX ET A0 GA (fun n => Nat.beq n 36))
theorem ga_ok : GSound Tryz.prog M0 GA := callsN_sound baseL _ 60
theorem globOk : GlobOk M0 A0 := globOk_two (g := 2) (h := 0) (cs := pows) (ds := errT) (by decide) (by kernel_rfl) (by kernel_rfl)
theorem globInp : GlobInp M0 A0 := globInp_two (g := 2) (h := 0) (cs := pows) (ds := errT) (by decide) (by kernel_rfl) (by kernel_rfl)
theorem xa_ok : GSound Tryz.prog M0 XA := orX_sound (nowhereG_sound ga_ok globOk _) (errX_sound ga_ok globInp _)
theorem same0 : sameTo A0 A0 A0.next = true := by kernel_rfl
theorem xa_true {A : St} (hs : ∀ f, f < A0.next → A.get f = A0.get f) : XA 12 [] A = some (.bool true, A) := by
  have h := awake_run
  unfold isT at h
  split at h
  · rename_i B hB
    unfold XA orX
    rw [nowhereG_of (by kernel_rfl) rfl hs same0 hB rfl]
  · cases h
/-- An error that stands for a number. -/
def ErrIs (A : St) (v : AV) (e : Int) : Prop := ∃ v' S B, errS ET A 10 v A0 = some (v', S) ∧ GA 36 [v'] S = some (.int .i64 e, B)
theorem xa_code {A : St} (hs : ∀ f, f < A0.next → A.get f = A0.get f) {v : AV} {e : Int} (h : ErrIs A v e) : XA 36 [v] A = some (.int .i64 e, A) := by
  obtain ⟨v', S, B, h1, h2⟩ := h
  have hn : nowhereG A0 GA (fun n => Nat.beq n 12) 36 [v] A = none := rfl
  unfold XA orX
  rw [hn]
  exact errX_of rfl rfl hs same0 h1 h2 rfl
/-- A plain error; one that tells where; one that tells a limit. -/
def SN (e : Int) : St := A0.push (.cells [.int .i64 e] [⟨0, 0, 1, 1⟩] 1 true)
def pN : AV := .iface 77 (.ptr (some (2, 0, 0)))
def SAt (i e : Int) : St := (SN e).push (.cells [pN, .int .i64 i] [⟨0, 0, 2, 1⟩] 1 true)
def SBd (i j e : Int) : St := (SN e).push (.cells [pN, .int .i64 i, .int .i64 j] [⟨0, 0, 3, 1⟩] 1 true)
def fstOf : Option (AV × St) → Option AV
  | some (v, _) => some v
  | none => none
theorem fstOf_some {o : Option (AV × St)} {v : AV} (h : fstOf o = some v) : ∃ B, o = some (v, B) := by
  cases o with
  | none => cases h
  | some x => cases h; exact ⟨x.2, rfl⟩
theorem code_nil : fstOf (GA 36 [.nilIface] A0) = some (.int .i64 0) := by kernel_rfl
theorem code_at (i e : Int) : fstOf (GA 36 [.iface 98 (.ptr (some (3, 0, 0)))] (SAt i e)) = some (.int .i64 e) := by kernel_rfl
theorem code_bound (i j e : Int) : fstOf (GA 36 [.iface 124 (.ptr (some (3, 0, 0)))] (SBd i j e)) = some (.int .i64 e) := by kernel_rfl
theorem errIs_nil (A : St) : ErrIs A .nilIface 0 := by
  obtain ⟨B, hB⟩ := fstOf_some code_nil
  exact ⟨_, _, B, rfl, hB⟩
theorem cells_made (A : St) {cs : List AV} {n : Nat} (h : cs.length = n) : (A.make cs 1).2.cells (A.next, 0, 0) n = some cs := by
  unfold St.cells St.look
  dsimp only
  rw [get_make]
  simp [findVer, h]
  rw [← h, List.take_length]
theorem cells_kept {A B : St} (x : A.Ext B) {p : Pl} (hp : p.1 < A.next) {n : Nat} {cs : List AV} (h : A.cells p n = some cs) : B.cells p n = some cs := by
  rw [St.cells_ext (x.get _ hp)]; exact h
theorem errIs_at {A : St} {f g : Nat} {i e : Int} (h1 : A.cells (f, 0, 0) 2 = some [.iface 77 (.ptr (some (g, 0, 0))), .int .i64 i]) (h2 : A.cells (g, 0, 0) 1 = some [.int .i64 e]) : ErrIs A (.iface 98 (.ptr (some (f, 0, 0)))) e := by
  obtain ⟨B, hB⟩ := fstOf_some (code_at i e)
  refine ⟨_, _, B, ?_, hB⟩
  simp only [errS, ET, elemP, Nat.beq, cond_false, cond_true, h1, h2]
  rfl
theorem errIs_bound {A : St} {f g : Nat} {i j e : Int} (h1 : A.cells (f, 0, 0) 3 = some [.iface 77 (.ptr (some (g, 0, 0))), .int .i64 i, .int .i64 j]) (h2 : A.cells (g, 0, 0) 1 = some [.int .i64 e]) : ErrIs A (.iface 124 (.ptr (some (f, 0, 0)))) e := by
  obtain ⟨B, hB⟩ := fstOf_some (code_bound i j e)
  refine ⟨_, _, B, ?_, hB⟩
  simp only [errS, ET, elemP, Nat.beq, cond_false, cond_true, h1, h2]
  rfl
end Go.Proofs.YteoioahkflcchaaGreatDoor
