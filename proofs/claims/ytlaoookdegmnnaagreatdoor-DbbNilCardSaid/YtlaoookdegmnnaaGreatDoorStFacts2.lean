/- What every card of the seat asks of the program. -/
import Derived.Test.YtlaoookdegmnnaaGreatDoorCards
import Derived.Test.YtlaoookdegmnnaaGreatDoorTie
import Derived.ProofKit
import Derived.LaidMore
import Derived.OpenShut
import Derived.Stop.Joined
import Derived.SevenTiedAt
import Derived.KernelRfl
namespace Go.Proofs.YtlaoookdegmnnaaGreatDoor
open Go
set_option maxRecDepth 100000
theorem mainSum : Tryz.prog.mainIs = some (true, "bdda14d95cde71930ae856eeaef3a23b854bbf784dccab9cdc89e2a69128bb5a".toList) := by kernel_rfl
theorem looksT : true = Tryz.prog.looks [] := by kernel_rfl
end Go.Proofs.YtlaoookdegmnnaaGreatDoor
