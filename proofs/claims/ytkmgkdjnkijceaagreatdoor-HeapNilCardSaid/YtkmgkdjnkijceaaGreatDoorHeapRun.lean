/- The law, run once: all that it does with what comes in is seen without a look at it. -/
import Derived.Test.YtkmgkdjnkijceaaGreatDoorChecked
import Derived.Test.YtkmgkdjnkijceaaGreatDoorHeapComp
import Derived.Test.YtkmgkdjnkijceaaGreatDoorHeapKeysLaid
import Derived.Test.YtkmgkdjnkijceaaGreatDoorAmKeys
namespace Go.Proofs.YtkmgkdjnkijceaaGreatDoor
open Go.AM Go.Sort
set_option maxRecDepth 100000

theorem mixed : Tryz.prog.follows .mixedOrders = true := Checked.mixed Tryz.checked
def D0 : Disp := fun _ _ => none
theorem sorts48 (m : Nat) : AnyZ.SortsIn Tryz.prog Tryz.sorted48_ren Fence.wide m :=
  ⟨fun blk off cap ss W hH hblk hsz => callsIn_wide.2 (AnyM.slices_Sort_string Tryz.sort83 blk off cap ss W hH hblk hsz),
   fun p cap W => callsIn_wide.2 (AnyM.slices_Sort_string_none Tryz.sort83 p cap W)⟩
theorem sorted48 (Bm b nn : Nat) (D : DataW Unit) (W : World) (hBm : Bm < W.heap.size) (hc : W.cell? ⟨Bm, 0, none⟩ = some (.map (some b))) (hown : W.ownsMap Tryz.prog 9 unitR b nn D) (hmax : Maps.size D ≤ maxLen) (hbytes : Maps.size D * 16 ≤ 140737488355328) :
    Calls Tryz.prog 48 #[.func (.func 84) #[] #[.pointer (some ⟨Bm, 0, none⟩)]] W fun e w' => ∃ (v : Value) (ss : List (List UInt8)), e = .returned v ∧ ss.Perm (strKeys D) ∧
      w'.ownsRow W.heap.size 9 1 v ss.length ((ss.mergeSort (fun x y => decide (x ≤ y))).map encStr) ∧ (v = .slice none 0 0 ↔ ss = []) ∧ RowKit.Below W.heap.size W w' := by
  have hseq : SeqGives Fence.wide 2 Tryz.prog 84 #[.pointer (some ⟨Bm, 0, none⟩)] encStr (fun ss => ss.Perm (strKeys D)) (Maps.size D) W :=
    AnyZ.keys_gives (ρ := Tryz.keys49_ren) { Tryz.keys49 with } Fence.wide _ trivial rfl (by omega) Bm b nn D W hBm hc hown
  exact callsIn_wide.1 (AnyZ.sorted_in Tryz.sorted48 Fence.wide 5 trivial trivial trivial trivial rfl (by omega) (sorts48 _) (enters_of Tryz.func83 (by kernel_rfl) rfl) 84 #[.pointer (some ⟨Bm, 0, none⟩)] trivial (enters_of Tryz.func84 (by kernel_rfl) rfl) _ _ hmax hbytes _ hseq)
def XL : Calls' := fun f args A => match f with
  | 48 => sortedKeysX 84 args A
  | 150 => compareX args A
  | _ => none
theorem xl_ok : GSound Tryz.prog muNone XL := fun f args A r B h => by
  unfold XL at h
  split at h
  · exact .inl ⟨⟨_, Tryz.func48, by kernel_rfl, by unfold Tryz.f48; decide⟩, fun F m w cargs _ R hc => sortedKeys_ok Tryz.underlying9 sorted48 h R hc⟩
  · exact .inr fun F m w cargs _ R hc => compare_ok Tryz.func150 (by kernel_rfl) (by kernel_rfl) (by kernel_rfl) (by kernel_rfl) h R hc
  · cases h
theorem baseOk : BaseOk muNone (T.nil : Env) := ⟨fun _ _ => rfl, fun g => by
  show slotR muNone (Env.at T.nil (1000000 + g)) _
  rw [at_nil]
  exact .inl rfl⟩
theorem baseL : Base Tryz.prog muNone (T.nil : Env) fns XL := ⟨mixed, baseOk, fns_ok, xl_ok⟩
def isT : Option (AV × St) → Bool
  | some (.bool true, _) => true
  | _ => false
def GA : Calls' := callsN D0 T.nil fns (fun n => Nat.beq n 56) XL 80
theorem law_run (mark : Int) (key : List UInt8) : isT (GA 3 [.int .i64 mark, .str key] stNone) = true := by kernel_rfl
end Go.Proofs.YtkmgkdjnkijceaaGreatDoor
