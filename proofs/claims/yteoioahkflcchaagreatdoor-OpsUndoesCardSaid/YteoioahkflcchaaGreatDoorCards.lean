/-
  DERIVED. GIVEN WITH THE SEED: THE CARDS: each row of YteoioahkflcchaaGreatDoorRows.lean that lists a variable, with what it lists TIED to the program's text (the seventh form; the later family's looks); each row that meets fmt, with fmt's text TOLD by the authors' own Lean function (tested against real Go, not proved from fmt's source: count such statements apart). THE CARD IS WHAT COUNTS. Prove the row's statement (the work); the ties are given (YteoioahkflcchaaGreatDoorTie.lean); close each card by the builder's one call (the guide's Derived/Test/ToyasCard.lean, 'card_holds'). Laid BY PROGRAM, IN A SANDBOX (cutbox-door.mjs). By AI agents, Wed Nov 11 2026. No macro, syntax, notation, axiom, sorry.
-/
import Derived.Test.YteoioahkflcchaaGreatDoorRows
import GoSem.ClaimSeven
namespace Go.Proofs.YteoioahkflcchaaGreatDoor
namespace Rows

/-- THE TIED CARD OF 'byroadlaw06.OpsEvals'. -/
def opsEvalsCard : Claim7 := { stood := { row := opsEvalsRow, standIns := [], harness := (true, "90ff05651c0d46292d4add71d158cc879a0eb28e623abcf9c3cc5946dba89886"), looks := true }, kinds := [], alts := [], laidByText := true, laidKinds := [.data, .data, .data, .data, .handle, .sentinel, .sentinel, .pinned], laidTests := true, laidLooks := .later }
def OpsEvalsCardSaid : Prop := Claim7.holds Tryz.pinned (.plain (OpenSpec.ofChange opsEvalsSpec)) opsEvalsCard

/-- THE TIED CARD OF 'byroadlaw06.OpsChecks'. -/
def opsChecksCard : Claim7 := { stood := { row := opsChecksRow, standIns := [], harness := (true, "90ff05651c0d46292d4add71d158cc879a0eb28e623abcf9c3cc5946dba89886"), looks := true }, kinds := [], alts := [], laidByText := true, laidKinds := [.data, .data, .data, .data, .handle, .sentinel, .sentinel, .pinned], laidTests := true, laidLooks := .later }
def OpsChecksCardSaid : Prop := Claim7.holds Tryz.pinned (.plain (OpenSpec.ofChange opsChecksSpec)) opsChecksCard

/-- THE TIED CARD OF 'byroadlaw06.OpsBack'. -/
def opsBackCard : Claim7 := { stood := { row := opsBackRow, standIns := [], harness := (true, "90ff05651c0d46292d4add71d158cc879a0eb28e623abcf9c3cc5946dba89886"), looks := true }, kinds := [], alts := [], laidByText := true, laidKinds := [.data, .data, .data, .data, .handle, .sentinel, .sentinel, .pinned], laidTests := true, laidLooks := .later }
def OpsBackCardSaid : Prop := Claim7.holds Tryz.pinned (.plain (OpenSpec.ofChange opsBackSpec)) opsBackCard

/-- THE TIED CARD OF 'byroadlaw06.OpsUndoes'. -/
def opsUndoesCard : Claim7 := { stood := { row := opsUndoesRow, standIns := [], harness := (true, "90ff05651c0d46292d4add71d158cc879a0eb28e623abcf9c3cc5946dba89886"), looks := true }, kinds := [], alts := [], laidByText := true, laidKinds := [.data, .data, .data, .data, .handle, .sentinel, .sentinel, .pinned], laidTests := true, laidLooks := .later }
def OpsUndoesCardSaid : Prop := Claim7.holds Tryz.pinned (.plain (OpenSpec.ofChange opsUndoesSpec)) opsUndoesCard

/-- THE SECOND FORM's CARD OF 'byroadlaw06.OpsEvals'. -/
def opsEvalsUptoCard : Claim7 := { stood := { row := opsEvalsUptoRow, standIns := [], harness := (true, "90ff05651c0d46292d4add71d158cc879a0eb28e623abcf9c3cc5946dba89886"), looks := true }, kinds := [], alts := [], laidByText := true, laidKinds := [.data, .data, .data, .data, .handle, .sentinel, .sentinel, .pinned], laidTests := true, laidLooks := .later }
def OpsEvalsUptoCardSaid : Prop := Claim7.holds Tryz.pinned (.plain (OpenSpec.upto opsEvalsSpec)) opsEvalsUptoCard

/-- THE SECOND FORM's CARD OF 'byroadlaw06.OpsChecks'. -/
def opsChecksUptoCard : Claim7 := { stood := { row := opsChecksUptoRow, standIns := [], harness := (true, "90ff05651c0d46292d4add71d158cc879a0eb28e623abcf9c3cc5946dba89886"), looks := true }, kinds := [], alts := [], laidByText := true, laidKinds := [.data, .data, .data, .data, .handle, .sentinel, .sentinel, .pinned], laidTests := true, laidLooks := .later }
def OpsChecksUptoCardSaid : Prop := Claim7.holds Tryz.pinned (.plain (OpenSpec.upto opsChecksSpec)) opsChecksUptoCard

/-- THE SECOND FORM's CARD OF 'byroadlaw06.OpsBack'. -/
def opsBackUptoCard : Claim7 := { stood := { row := opsBackUptoRow, standIns := [], harness := (true, "90ff05651c0d46292d4add71d158cc879a0eb28e623abcf9c3cc5946dba89886"), looks := true }, kinds := [], alts := [], laidByText := true, laidKinds := [.data, .data, .data, .data, .handle, .sentinel, .sentinel, .pinned], laidTests := true, laidLooks := .later }
def OpsBackUptoCardSaid : Prop := Claim7.holds Tryz.pinned (.plain (OpenSpec.upto opsBackSpec)) opsBackUptoCard

/-- THE SECOND FORM's CARD OF 'byroadlaw06.OpsUndoes'. -/
def opsUndoesUptoCard : Claim7 := { stood := { row := opsUndoesUptoRow, standIns := [], harness := (true, "90ff05651c0d46292d4add71d158cc879a0eb28e623abcf9c3cc5946dba89886"), looks := true }, kinds := [], alts := [], laidByText := true, laidKinds := [.data, .data, .data, .data, .handle, .sentinel, .sentinel, .pinned], laidTests := true, laidLooks := .later }
def OpsUndoesUptoCardSaid : Prop := Claim7.holds Tryz.pinned (.plain (OpenSpec.upto opsUndoesSpec)) opsUndoesUptoCard
end Rows
end Go.Proofs.YteoioahkflcchaaGreatDoor
