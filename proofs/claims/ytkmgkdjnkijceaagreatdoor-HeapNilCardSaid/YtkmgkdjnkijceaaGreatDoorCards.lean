/-
  DERIVED. GIVEN WITH THE SEED: THE CARDS: each row of YtkmgkdjnkijceaaGreatDoorRows.lean that lists a variable, with what it lists TIED to the program's text (the seventh form; the later family's looks); each row that meets fmt, with fmt's text TOLD by the authors' own Lean function (tested against real Go, not proved from fmt's source: count such statements apart). THE CARD IS WHAT COUNTS. Prove the row's statement (the work); the ties are given (YtkmgkdjnkijceaaGreatDoorTie.lean); close each card by the builder's one call (the guide's Derived/Test/ToyasCard.lean, 'card_holds'). Laid BY PROGRAM, IN A SANDBOX (cutbox-door.mjs). By AI agents, Wed Nov 11 2026. No macro, syntax, notation, axiom, sorry.
-/
import Derived.Test.YtkmgkdjnkijceaaGreatDoorRows
import GoSem.ClaimSeven
namespace Go.Proofs.YtkmgkdjnkijceaaGreatDoor
namespace Rows

/-- THE TIED CARD OF 'byroadlaw15.HeapNil'. -/
def heapNilCard : Claim7 := { stood := { row := heapNilRow, standIns := [], harness := (true, "6989abb84b8ef0943655edbbbb3efc3eb949195ae5ef4383388713b1488ea9c4"), looks := true }, kinds := [], alts := [], laidByText := true, laidKinds := [.handle], laidTests := true, laidLooks := .later }
def HeapNilCardSaid : Prop := Claim7.holds Tryz.pinned (.plain (OpenSpec.ofChange heapNilSpec)) heapNilCard

/-- THE SECOND FORM's CARD OF 'byroadlaw15.HeapNil'. -/
def heapNilUptoCard : Claim7 := { stood := { row := heapNilUptoRow, standIns := [], harness := (true, "6989abb84b8ef0943655edbbbb3efc3eb949195ae5ef4383388713b1488ea9c4"), looks := true }, kinds := [], alts := [], laidByText := true, laidKinds := [.handle], laidTests := true, laidLooks := .later }
def HeapNilUptoCardSaid : Prop := Claim7.holds Tryz.pinned (.plain (OpenSpec.upto heapNilSpec)) heapNilUptoCard
end Rows
end Go.Proofs.YtkmgkdjnkijceaaGreatDoor
