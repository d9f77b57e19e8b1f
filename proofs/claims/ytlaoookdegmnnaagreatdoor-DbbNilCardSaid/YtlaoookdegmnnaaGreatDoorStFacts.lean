/- What every row of the seat asks of the program. -/
import Derived.Test.YtlaoookdegmnnaaGreatDoorCards
import Derived.Test.YtlaoookdegmnnaaGreatDoorTie
import Derived.ProofKit
import Derived.LaidMore
import Derived.OpenShut
import Derived.Stop.Joined
import Derived.SevenTiedAt
import Derived.KernelRfl
namespace Go.Proofs.YtlaoookdegmnnaaGreatDoor
open Go
set_option maxRecDepth 100000
theorem laidOut : laidOutB Tryz.prog = true := by kernel_rfl
theorem mapsRow : mapsRowed Tryz.prog = true := by kernel_rfl
theorem noStops : (Tryz.prog.stops == []) = true := by kernel_rfl
theorem noKnobs : (Tryz.prog.stopKnobs == []) = true := by kernel_rfl
end Go.Proofs.YtlaoookdegmnnaaGreatDoor
