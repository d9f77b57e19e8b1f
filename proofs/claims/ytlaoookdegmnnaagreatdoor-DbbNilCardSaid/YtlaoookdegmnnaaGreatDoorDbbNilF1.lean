/- What the row of the law asks of the program. -/
import Derived.Test.YtlaoookdegmnnaaGreatDoorCards
import Derived.Test.YtlaoookdegmnnaaGreatDoorTie
import Derived.ProofKit
import Derived.LaidMore
import Derived.OpenShut
import Derived.Stop.Joined
import Derived.SevenTiedAt
import Derived.KernelRfl
namespace Go.Proofs.YtlaoookdegmnnaaGreatDoor
open Go
set_option maxRecDepth 100000
theorem dbbNil_all : ((Rows.dbbNilRow.inPlace == Tryz.prog.inPlace 9) && (Rows.dbbNilRow.unfollowed == Tryz.prog.unfollowed 9) && (Rows.dbbNilRow.recurses == Tryz.prog.recurses 9) && (Rows.dbbNilRow.named == Tryz.prog.varsNamed 9)) = true := by kernel_rfl
theorem dbbNil_inPlace : (Rows.dbbNilRow.inPlace == Tryz.prog.inPlace 9) = true := by have h := dbbNil_all; simp only [Bool.and_eq_true] at h; exact h.1.1.1
theorem dbbNil_unf : (Rows.dbbNilRow.unfollowed == Tryz.prog.unfollowed 9) = true := by have h := dbbNil_all; simp only [Bool.and_eq_true] at h; exact h.1.1.2
theorem dbbNil_rec : (Rows.dbbNilRow.recurses == Tryz.prog.recurses 9) = true := by have h := dbbNil_all; simp only [Bool.and_eq_true] at h; exact h.1.2
theorem dbbNil_named : (Rows.dbbNilRow.named == Tryz.prog.varsNamed 9) = true := by have h := dbbNil_all; simp only [Bool.and_eq_true] at h; exact h.2
theorem dbbNil_no : Tryz.prog.funcNamed "byroad/byroadlaw14.DbbNil" = some 9 := by kernel_rfl
end Go.Proofs.YtlaoookdegmnnaaGreatDoor
