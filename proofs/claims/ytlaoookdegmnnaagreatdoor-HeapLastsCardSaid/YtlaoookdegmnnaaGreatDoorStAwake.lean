/- The example of the heap's chapter, run once; the rows of the library. -/
import Derived.Test.YtlaoookdegmnnaaGreatDoorHpCompE
import Derived.Test.YtlaoookdegmnnaaGreatDoorStBase
import Derived.Test.YtlaoookdegmnnaaGreatDoorStKeysLaid
import Derived.Test.YtlaoookdegmnnaaGreatDoorAmKeys
import Derived.Test.YtlaoookdegmnnaaGreatDoorHpCellA
set_option maxRecDepth 100000
namespace Go.Proofs.YtlaoookdegmnnaaGreatDoor
open Go Go.AM Go.Sort
theorem sorts156 (m:Nat):AnyZ.SortsIn Tryz.prog Tryz.sorted156_ren Fence.wide m:=
 ⟨fun blk off cap ss W hH hblk hsz=>callsIn_wide.2 (AnyM.slices_Sort_string Tryz.sort260 blk off cap ss W hH hblk hsz),
  fun p cap W=>callsIn_wide.2 (AnyM.slices_Sort_string_none Tryz.sort260 p cap W)⟩
theorem sorted156 (Bm b nn:Nat) (D:DataW Unit) (W:World) (hBm:Bm<W.heap.size) (hc:W.cell? ⟨Bm,0,none⟩=some (.map (some b))) (hown:W.ownsMap Tryz.prog 9 unitR b nn D) (hmax:Maps.size D≤maxLen) (hbytes:Maps.size D*16≤140737488355328) :
  Calls Tryz.prog 156 #[.func (.func 261) #[] #[.pointer (some ⟨Bm,0,none⟩)]] W fun e w'=>∃ (v:Value) (ss:List (List UInt8)),e=.returned v∧ss.Perm (strKeys D) ∧
   w'.ownsRow W.heap.size 9 1 v ss.length ((ss.mergeSort (fun x y=>decide (x≤y))).map encStr)∧(v=.slice none 0 0↔ss=[])∧RowKit.Below W.heap.size W w':=by
 have hseq:SeqGives Fence.wide 2 Tryz.prog 261 #[.pointer (some ⟨Bm,0,none⟩)] encStr (fun ss=>ss.Perm (strKeys D)) (Maps.size D) W:=
  AnyZ.keys_gives (ρ:=Tryz.keys157_ren) { Tryz.keys157 with } Fence.wide _ trivial rfl (by omega) Bm b nn D W hBm hc hown
 exact callsIn_wide.1 (AnyZ.sorted_in Tryz.sorted156 Fence.wide 5 trivial trivial trivial trivial rfl (by omega) (sorts156 _) (enters_of Tryz.func260 (by kernel_rfl) rfl) 261 #[.pointer (some ⟨Bm,0,none⟩)] trivial (enters_of Tryz.func261 (by kernel_rfl) rfl) _ _ hmax hbytes _ hseq)
def XK:Calls':=fun f args A=>match f with
 | 156=>sortedKeysX 261 args A
 | 172=>match args with|[s]=>sortIX A s|_=>none
 | _=>XL f args A
theorem xk_ok:GSound Tryz.prog M0 XK:=fun f args A r B h=>by
 unfold XK at h
 split at h
 ·exact .inl ⟨⟨_,Tryz.func156,by kernel_rfl,by unfold Tryz.f156;decide⟩,fun F m w cargs _ R hc=>sortedKeys_ok Tryz.underlying9 sorted156 h R hc⟩
 ·split at h
  ·exact .inl ⟨⟨_,Tryz.func172,by kernel_rfl,by unfold Tryz.f172;decide⟩,ok_sortI (M0:=M0) Tryz.sort172 h⟩
  ·cases h
 ·exact xl_ok M0 _ _ _ _ _ h
theorem baseK:Base Tryz.prog M0 G0 fnsK XK:=⟨mixed,⟨rfl,few⟩,baseOk_one,fnsK_ok,xk_ok⟩
def GA:Calls':=callsN D0 G0 fnsK (fun n=>Nat.beq n 84) XK 80
theorem ga_ok:CSound Tryz.prog M0 GA:=callsN_sound baseK _ 80
theorem awake_run:isT (GA 17 [] A0)=true:=by kernel_rfl
end Go.Proofs.YtlaoookdegmnnaaGreatDoor
