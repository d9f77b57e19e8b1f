/- What the row of the law asks of the program. -/
import Derived.Test.YtlaoookdegmnnaaGreatDoorCards
import Derived.Test.YtlaoookdegmnnaaGreatDoorTie
import Derived.ProofKit
import Derived.LaidMore
import Derived.OpenShut
import Derived.Stop.Joined
import Derived.SevenTiedAt
import Derived.KernelRfl
namespace Go.Proofs.YtlaoookdegmnnaaGreatDoor
open Go
set_option maxRecDepth 100000
theorem dbcNil_all : ((Rows.dbcNilRow.inPlace == Tryz.prog.inPlace 5) && (Rows.dbcNilRow.unfollowed == Tryz.prog.unfollowed 5) && (Rows.dbcNilRow.recurses == Tryz.prog.recurses 5) && (Rows.dbcNilRow.named == Tryz.prog.varsNamed 5)) = true := by kernel_rfl
theorem dbcNil_inPlace : (Rows.dbcNilRow.inPlace == Tryz.prog.inPlace 5) = true := by have h := dbcNil_all; simp only [Bool.and_eq_true] at h; exact h.1.1.1
theorem dbcNil_unf : (Rows.dbcNilRow.unfollowed == Tryz.prog.unfollowed 5) = true := by have h := dbcNil_all; simp only [Bool.and_eq_true] at h; exact h.1.1.2
theorem dbcNil_rec : (Rows.dbcNilRow.recurses == Tryz.prog.recurses 5) = true := by have h := dbcNil_all; simp only [Bool.and_eq_true] at h; exact h.1.2
theorem dbcNil_named : (Rows.dbcNilRow.named == Tryz.prog.varsNamed 5) = true := by have h := dbcNil_all; simp only [Bool.and_eq_true] at h; exact h.2
theorem dbcNil_no : Tryz.prog.funcNamed "byroad/byroadlaw17.DbcNil" = some 5 := by kernel_rfl
end Go.Proofs.YtlaoookdegmnnaaGreatDoor
