/-
  DERIVED. GIVEN WITH THE SEED: THE CARDS: each row of YtejlhgcheaimjaaGreatDoorRows.lean that lists a variable, with what it lists TIED to the program's text (the seventh form; the later family's looks); each row that meets fmt, with fmt's text TOLD by the authors' own Lean function (tested against real Go, not proved from fmt's source: count such statements apart). THE CARD IS WHAT COUNTS. Prove the row's statement (the work); the ties are given (YtejlhgcheaimjaaGreatDoorTie.lean); close each card by the builder's one call (the guide's Derived/Test/ToyasCard.lean, 'card_holds'). Laid BY PROGRAM, IN A SANDBOX (cutbox-door.mjs). By AI agents, Wed Nov 11 2026. No macro, syntax, notation, axiom, sorry.
-/
import Derived.Test.YtejlhgcheaimjaaGreatDoorRows
import GoSem.ClaimSeven
namespace Go.Proofs.YtejlhgcheaimjaaGreatDoor
namespace Rows

/-- THE TIED CARD OF 'byroadlaw06.OpsTexts'. -/
def opsTextsCard : Claim7 := { stood := { row := opsTextsRow, standIns := [], harness := (true, "f47f2856b14d585c07ac66f5877d153b1fb7d271b8846f5c0bbb0d4c0a5f080e"), looks := true }, kinds := [], alts := [], laidByText := true, laidKinds := [.data, .data, .data, .data, .handle, .sentinel, .sentinel, .pinned], laidTests := true, laidLooks := .later }
def OpsTextsCardSaid : Prop := Claim7.holds Tryz.pinned (.plain (OpenSpec.ofChange opsTextsSpec)) opsTextsCard

/-- THE TIED CARD OF 'byroadlaw06.OpsReads'. -/
def opsReadsCard : Claim7 := { stood := { row := opsReadsRow, standIns := [], harness := (true, "f47f2856b14d585c07ac66f5877d153b1fb7d271b8846f5c0bbb0d4c0a5f080e"), looks := true }, kinds := [], alts := [], laidByText := true, laidKinds := [.data, .data, .data, .data, .handle, .sentinel, .sentinel, .pinned], laidTests := true, laidLooks := .later }
def OpsReadsCardSaid : Prop := Claim7.holds Tryz.pinned (.plain (OpenSpec.ofChange opsReadsSpec)) opsReadsCard

/-- THE SECOND FORM's CARD OF 'byroadlaw06.OpsTexts'. -/
def opsTextsUptoCard : Claim7 := { stood := { row := opsTextsUptoRow, standIns := [], harness := (true, "f47f2856b14d585c07ac66f5877d153b1fb7d271b8846f5c0bbb0d4c0a5f080e"), looks := true }, kinds := [], alts := [], laidByText := true, laidKinds := [.data, .data, .data, .data, .handle, .sentinel, .sentinel, .pinned], laidTests := true, laidLooks := .later }
def OpsTextsUptoCardSaid : Prop := Claim7.holds Tryz.pinned (.plain (OpenSpec.upto opsTextsSpec)) opsTextsUptoCard

/-- THE SECOND FORM's CARD OF 'byroadlaw06.OpsReads'. -/
def opsReadsUptoCard : Claim7 := { stood := { row := opsReadsUptoRow, standIns := [], harness := (true, "f47f2856b14d585c07ac66f5877d153b1fb7d271b8846f5c0bbb0d4c0a5f080e"), looks := true }, kinds := [], alts := [], laidByText := true, laidKinds := [.data, .data, .data, .data, .handle, .sentinel, .sentinel, .pinned], laidTests := true, laidLooks := .later }
def OpsReadsUptoCardSaid : Prop := Claim7.holds Tryz.pinned (.plain (OpenSpec.upto opsReadsSpec)) opsReadsUptoCard
end Rows
end Go.Proofs.YtejlhgcheaimjaaGreatDoor
