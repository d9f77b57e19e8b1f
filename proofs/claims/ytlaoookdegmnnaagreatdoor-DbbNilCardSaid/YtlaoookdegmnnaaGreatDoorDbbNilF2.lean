/- What the card of the law asks of the program. -/
import Derived.Test.YtlaoookdegmnnaaGreatDoorCards
import Derived.Test.YtlaoookdegmnnaaGreatDoorTie
import Derived.ProofKit
import Derived.LaidMore
import Derived.OpenShut
import Derived.Stop.Joined
import Derived.SevenTiedAt
import Derived.KernelRfl
namespace Go.Proofs.YtlaoookdegmnnaaGreatDoor
open Go
set_option maxRecDepth 100000
theorem dbbNil_goes : false = Rows.dbbNilRow.goesBy Tryz.prog := by kernel_rfl
end Go.Proofs.YtlaoookdegmnnaaGreatDoor
