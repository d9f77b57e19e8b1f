/- What the card of the law asks of the program. -/
import Derived.Test.YtlaoookdegmnnaaGreatDoorCards
import Derived.Test.YtlaoookdegmnnaaGreatDoorTie
import Derived.ProofKit
import Derived.LaidMore
import Derived.OpenShut
import Derived.Stop.Joined
import Derived.SevenTiedAt
import Derived.KernelRfl
set_option maxRecDepth 100000
namespace Go.Proofs.YtlaoookdegmnnaaGreatDoor
open Go
theorem heapLasts_goes:false=Rows.heapLastsRow.goesBy Tryz.prog:=by kernel_rfl
end Go.Proofs.YtlaoookdegmnnaaGreatDoor
