/- What the row of the law asks of the program. -/
import Derived.Test.YtlaoookdegmnnaaGreatDoorCards
import Derived.Test.YtlaoookdegmnnaaGreatDoorTie
import Derived.ProofKit
import Derived.LaidMore
import Derived.OpenShut
import Derived.Stop.Joined
import Derived.SevenTiedAt
import Derived.KernelRfl
set_option maxRecDepth 100000
namespace Go.Proofs.YtlaoookdegmnnaaGreatDoor
open Go
theorem heapMost_all : ((Rows.heapMostRow.inPlace == Tryz.prog.inPlace 3) && (Rows.heapMostRow.unfollowed == Tryz.prog.unfollowed 3) && (Rows.heapMostRow.recurses == Tryz.prog.recurses 3) && (Rows.heapMostRow.named == Tryz.prog.varsNamed 3)) = true := by kernel_rfl
theorem heapMost_inPlace : (Rows.heapMostRow.inPlace == Tryz.prog.inPlace 3) = true := by have h := heapMost_all; simp only [Bool.and_eq_true] at h; exact h.1.1.1
theorem heapMost_unf : (Rows.heapMostRow.unfollowed == Tryz.prog.unfollowed 3) = true := by have h := heapMost_all; simp only [Bool.and_eq_true] at h; exact h.1.1.2
theorem heapMost_rec : (Rows.heapMostRow.recurses == Tryz.prog.recurses 3) = true := by have h := heapMost_all; simp only [Bool.and_eq_true] at h; exact h.1.2
theorem heapMost_named : (Rows.heapMostRow.named == Tryz.prog.varsNamed 3) = true := by have h := heapMost_all; simp only [Bool.and_eq_true] at h; exact h.2
theorem heapMost_no : Tryz.prog.funcNamed "byroad/byroadlaw15.HeapMost" = some 3 := by kernel_rfl
end Go.Proofs.YtlaoookdegmnnaaGreatDoor
