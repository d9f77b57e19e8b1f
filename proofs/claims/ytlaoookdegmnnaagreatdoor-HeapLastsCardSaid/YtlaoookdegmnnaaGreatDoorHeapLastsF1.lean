/- What the row of the law asks of the program. -/
import Derived.Test.YtlaoookdegmnnaaGreatDoorCards
import Derived.Test.YtlaoookdegmnnaaGreatDoorTie
import Derived.ProofKit
import Derived.LaidMore
import Derived.OpenShut
import Derived.Stop.Joined
import Derived.SevenTiedAt
import Derived.KernelRfl
set_option maxRecDepth 100000
namespace Go.Proofs.YtlaoookdegmnnaaGreatDoor
open Go
theorem heapLasts_all:((Rows.heapLastsRow.inPlace == Tryz.prog.inPlace 4)&&(Rows.heapLastsRow.unfollowed == Tryz.prog.unfollowed 4)&&(Rows.heapLastsRow.recurses == Tryz.prog.recurses 4)&&(Rows.heapLastsRow.named == Tryz.prog.varsNamed 4))=true:=by kernel_rfl
theorem heapLasts_inPlace:(Rows.heapLastsRow.inPlace == Tryz.prog.inPlace 4)=true:=by have h:=heapLasts_all;simp only[Bool.and_eq_true] at h;exact h.1.1.1
theorem heapLasts_unf:(Rows.heapLastsRow.unfollowed == Tryz.prog.unfollowed 4)=true:=by have h:=heapLasts_all;simp only[Bool.and_eq_true] at h;exact h.1.1.2
theorem heapLasts_rec:(Rows.heapLastsRow.recurses == Tryz.prog.recurses 4)=true:=by have h:=heapLasts_all;simp only[Bool.and_eq_true] at h;exact h.1.2
theorem heapLasts_named:(Rows.heapLastsRow.named == Tryz.prog.varsNamed 4)=true:=by have h:=heapLasts_all;simp only[Bool.and_eq_true] at h;exact h.2
theorem heapLasts_no:Tryz.prog.funcNamed "byroad/byroadlaw15.HeapLasts"=some 4:=by kernel_rfl
end Go.Proofs.YtlaoookdegmnnaaGreatDoor
