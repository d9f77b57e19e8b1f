/-
  DERIVED. GIVEN WITH THE SEED: THE CARDS: each row of YtlaoookdegmnnaaGreatDoorRows.lean that lists a variable, with what it lists TIED to the program's text (the seventh form; the later family's looks); each row that meets fmt, with fmt's text TOLD by the authors' own Lean function (tested against real Go, not proved from fmt's source: count such statements apart). THE CARD IS WHAT COUNTS. Prove the row's statement (the work); the ties are given (YtlaoookdegmnnaaGreatDoorTie.lean); close each card by the builder's one call (the guide's Derived/Test/ToyasCard.lean, 'card_holds'). Laid BY PROGRAM, IN A SANDBOX (cutbox-door.mjs). By AI agents, Wed Nov 11 2026. No macro, syntax, notation, axiom, sorry.
-/
import Derived.Test.YtlaoookdegmnnaaGreatDoorRows
import GoSem.ClaimSeven
namespace Go.Proofs.YtlaoookdegmnnaaGreatDoor
namespace Rows

/-- THE TIED CARD OF 'byroadlaw15.HeapMost'. -/
def heapMostCard : Claim7 := { stood := { row := heapMostRow, standIns := [], harness := (true, "bdda14d95cde71930ae856eeaef3a23b854bbf784dccab9cdc89e2a69128bb5a"), looks := true }, kinds := [], alts := [], laidByText := true, laidKinds := [.handle], laidTests := true, laidLooks := .later }
def HeapMostCardSaid : Prop := Claim7.holds Tryz.pinned (.plain (OpenSpec.ofChange heapMostSpec)) heapMostCard

/-- THE TIED CARD OF 'byroadlaw15.HeapLasts'. -/
def heapLastsCard : Claim7 := { stood := { row := heapLastsRow, standIns := [], harness := (true, "bdda14d95cde71930ae856eeaef3a23b854bbf784dccab9cdc89e2a69128bb5a"), looks := true }, kinds := [], alts := [], laidByText := true, laidKinds := [.handle], laidTests := true, laidLooks := .later }
def HeapLastsCardSaid : Prop := Claim7.holds Tryz.pinned (.plain (OpenSpec.ofChange heapLastsSpec)) heapLastsCard

/-- THE TIED CARD OF 'byroadlaw17.DbcNil'. -/
def dbcNilCard : Claim7 := { stood := { row := dbcNilRow, standIns := [], harness := (true, "bdda14d95cde71930ae856eeaef3a23b854bbf784dccab9cdc89e2a69128bb5a"), looks := true }, kinds := [], alts := [], laidByText := true, laidKinds := [.handle], laidTests := true, laidLooks := .later }
def DbcNilCardSaid : Prop := Claim7.holds Tryz.pinned (.plain (OpenSpec.ofChange dbcNilSpec)) dbcNilCard

/-- THE TIED CARD OF 'byroadlaw17.DbcSaves'. -/
def dbcSavesCard : Claim7 := { stood := { row := dbcSavesRow, standIns := [], harness := (true, "bdda14d95cde71930ae856eeaef3a23b854bbf784dccab9cdc89e2a69128bb5a"), looks := true }, kinds := [], alts := [], laidByText := true, laidKinds := [.handle], laidTests := true, laidLooks := .later }
def DbcSavesCardSaid : Prop := Claim7.holds Tryz.pinned (.plain (OpenSpec.ofChange dbcSavesSpec)) dbcSavesCard

/-- THE TIED CARD OF 'byroadlaw17.DbcSerial'. -/
def dbcSerialCard : Claim7 := { stood := { row := dbcSerialRow, standIns := [], harness := (true, "bdda14d95cde71930ae856eeaef3a23b854bbf784dccab9cdc89e2a69128bb5a"), looks := true }, kinds := [], alts := [], laidByText := true, laidKinds := [.handle], laidTests := true, laidLooks := .later }
def DbcSerialCardSaid : Prop := Claim7.holds Tryz.pinned (.plain (OpenSpec.ofChange dbcSerialSpec)) dbcSerialCard

/-- THE TIED CARD OF 'byroadlaw17.DbcLasts'. -/
def dbcLastsCard : Claim7 := { stood := { row := dbcLastsRow, standIns := [], harness := (true, "bdda14d95cde71930ae856eeaef3a23b854bbf784dccab9cdc89e2a69128bb5a"), looks := true }, kinds := [], alts := [], laidByText := true, laidKinds := [.handle], laidTests := true, laidLooks := .later }
def DbcLastsCardSaid : Prop := Claim7.holds Tryz.pinned (.plain (OpenSpec.ofChange dbcLastsSpec)) dbcLastsCard

/-- THE TIED CARD OF 'byroadlaw14.DbbNil'. -/
def dbbNilCard : Claim7 := { stood := { row := dbbNilRow, standIns := [], harness := (true, "bdda14d95cde71930ae856eeaef3a23b854bbf784dccab9cdc89e2a69128bb5a"), looks := true }, kinds := [], alts := [], laidByText := true, laidKinds := [.handle], laidTests := true, laidLooks := .later }
def DbbNilCardSaid : Prop := Claim7.holds Tryz.pinned (.plain (OpenSpec.ofChange dbbNilSpec)) dbbNilCard

/-- THE TIED CARD OF 'byroadlaw14.DbbSaves'. -/
def dbbSavesCard : Claim7 := { stood := { row := dbbSavesRow, standIns := [], harness := (true, "bdda14d95cde71930ae856eeaef3a23b854bbf784dccab9cdc89e2a69128bb5a"), looks := true }, kinds := [], alts := [], laidByText := true, laidKinds := [.handle], laidTests := true, laidLooks := .later }
def DbbSavesCardSaid : Prop := Claim7.holds Tryz.pinned (.plain (OpenSpec.ofChange dbbSavesSpec)) dbbSavesCard

/-- THE TIED CARD OF 'byroadlaw14.DbbSerial'. -/
def dbbSerialCard : Claim7 := { stood := { row := dbbSerialRow, standIns := [], harness := (true, "bdda14d95cde71930ae856eeaef3a23b854bbf784dccab9cdc89e2a69128bb5a"), looks := true }, kinds := [], alts := [], laidByText := true, laidKinds := [.handle], laidTests := true, laidLooks := .later }
def DbbSerialCardSaid : Prop := Claim7.holds Tryz.pinned (.plain (OpenSpec.ofChange dbbSerialSpec)) dbbSerialCard

/-- THE TIED CARD OF 'byroadlaw14.DbbPlays'. -/
def dbbPlaysCard : Claim7 := { stood := { row := dbbPlaysRow, standIns := [], harness := (true, "bdda14d95cde71930ae856eeaef3a23b854bbf784dccab9cdc89e2a69128bb5a"), looks := true }, kinds := [], alts := [], laidByText := true, laidKinds := [.handle], laidTests := true, laidLooks := .later }
def DbbPlaysCardSaid : Prop := Claim7.holds Tryz.pinned (.plain (OpenSpec.ofChange dbbPlaysSpec)) dbbPlaysCard

/-- THE TIED CARD OF 'byroadlaw14.DbbLasts'. -/
def dbbLastsCard : Claim7 := { stood := { row := dbbLastsRow, standIns := [], harness := (true, "bdda14d95cde71930ae856eeaef3a23b854bbf784dccab9cdc89e2a69128bb5a"), looks := true }, kinds := [], alts := [], laidByText := true, laidKinds := [.handle], laidTests := true, laidLooks := .later }
def DbbLastsCardSaid : Prop := Claim7.holds Tryz.pinned (.plain (OpenSpec.ofChange dbbLastsSpec)) dbbLastsCard

/-- THE SECOND FORM's CARD OF 'byroadlaw15.HeapMost'. -/
def heapMostUptoCard : Claim7 := { stood := { row := heapMostUptoRow, standIns := [], harness := (true, "bdda14d95cde71930ae856eeaef3a23b854bbf784dccab9cdc89e2a69128bb5a"), looks := true }, kinds := [], alts := [], laidByText := true, laidKinds := [.handle], laidTests := true, laidLooks := .later }
def HeapMostUptoCardSaid : Prop := Claim7.holds Tryz.pinned (.plain (OpenSpec.upto heapMostSpec)) heapMostUptoCard

/-- THE SECOND FORM's CARD OF 'byroadlaw15.HeapLasts'. -/
def heapLastsUptoCard : Claim7 := { stood := { row := heapLastsUptoRow, standIns := [], harness := (true, "bdda14d95cde71930ae856eeaef3a23b854bbf784dccab9cdc89e2a69128bb5a"), looks := true }, kinds := [], alts := [], laidByText := true, laidKinds := [.handle], laidTests := true, laidLooks := .later }
def HeapLastsUptoCardSaid : Prop := Claim7.holds Tryz.pinned (.plain (OpenSpec.upto heapLastsSpec)) heapLastsUptoCard

/-- THE SECOND FORM's CARD OF 'byroadlaw17.DbcNil'. -/
def dbcNilUptoCard : Claim7 := { stood := { row := dbcNilUptoRow, standIns := [], harness := (true, "bdda14d95cde71930ae856eeaef3a23b854bbf784dccab9cdc89e2a69128bb5a"), looks := true }, kinds := [], alts := [], laidByText := true, laidKinds := [.handle], laidTests := true, laidLooks := .later }
def DbcNilUptoCardSaid : Prop := Claim7.holds Tryz.pinned (.plain (OpenSpec.upto dbcNilSpec)) dbcNilUptoCard

/-- THE SECOND FORM's CARD OF 'byroadlaw17.DbcSaves'. -/
def dbcSavesUptoCard : Claim7 := { stood := { row := dbcSavesUptoRow, standIns := [], harness := (true, "bdda14d95cde71930ae856eeaef3a23b854bbf784dccab9cdc89e2a69128bb5a"), looks := true }, kinds := [], alts := [], laidByText := true, laidKinds := [.handle], laidTests := true, laidLooks := .later }
def DbcSavesUptoCardSaid : Prop := Claim7.holds Tryz.pinned (.plain (OpenSpec.upto dbcSavesSpec)) dbcSavesUptoCard

/-- THE SECOND FORM's CARD OF 'byroadlaw17.DbcSerial'. -/
def dbcSerialUptoCard : Claim7 := { stood := { row := dbcSerialUptoRow, standIns := [], harness := (true, "bdda14d95cde71930ae856eeaef3a23b854bbf784dccab9cdc89e2a69128bb5a"), looks := true }, kinds := [], alts := [], laidByText := true, laidKinds := [.handle], laidTests := true, laidLooks := .later }
def DbcSerialUptoCardSaid : Prop := Claim7.holds Tryz.pinned (.plain (OpenSpec.upto dbcSerialSpec)) dbcSerialUptoCard

/-- THE SECOND FORM's CARD OF 'byroadlaw17.DbcLasts'. -/
def dbcLastsUptoCard : Claim7 := { stood := { row := dbcLastsUptoRow, standIns := [], harness := (true, "bdda14d95cde71930ae856eeaef3a23b854bbf784dccab9cdc89e2a69128bb5a"), looks := true }, kinds := [], alts := [], laidByText := true, laidKinds := [.handle], laidTests := true, laidLooks := .later }
def DbcLastsUptoCardSaid : Prop := Claim7.holds Tryz.pinned (.plain (OpenSpec.upto dbcLastsSpec)) dbcLastsUptoCard

/-- THE SECOND FORM's CARD OF 'byroadlaw14.DbbNil'. -/
def dbbNilUptoCard : Claim7 := { stood := { row := dbbNilUptoRow, standIns := [], harness := (true, "bdda14d95cde71930ae856eeaef3a23b854bbf784dccab9cdc89e2a69128bb5a"), looks := true }, kinds := [], alts := [], laidByText := true, laidKinds := [.handle], laidTests := true, laidLooks := .later }
def DbbNilUptoCardSaid : Prop := Claim7.holds Tryz.pinned (.plain (OpenSpec.upto dbbNilSpec)) dbbNilUptoCard

/-- THE SECOND FORM's CARD OF 'byroadlaw14.DbbSaves'. -/
def dbbSavesUptoCard : Claim7 := { stood := { row := dbbSavesUptoRow, standIns := [], harness := (true, "bdda14d95cde71930ae856eeaef3a23b854bbf784dccab9cdc89e2a69128bb5a"), looks := true }, kinds := [], alts := [], laidByText := true, laidKinds := [.handle], laidTests := true, laidLooks := .later }
def DbbSavesUptoCardSaid : Prop := Claim7.holds Tryz.pinned (.plain (OpenSpec.upto dbbSavesSpec)) dbbSavesUptoCard

/-- THE SECOND FORM's CARD OF 'byroadlaw14.DbbSerial'. -/
def dbbSerialUptoCard : Claim7 := { stood := { row := dbbSerialUptoRow, standIns := [], harness := (true, "bdda14d95cde71930ae856eeaef3a23b854bbf784dccab9cdc89e2a69128bb5a"), looks := true }, kinds := [], alts := [], laidByText := true, laidKinds := [.handle], laidTests := true, laidLooks := .later }
def DbbSerialUptoCardSaid : Prop := Claim7.holds Tryz.pinned (.plain (OpenSpec.upto dbbSerialSpec)) dbbSerialUptoCard

/-- THE SECOND FORM's CARD OF 'byroadlaw14.DbbPlays'. -/
def dbbPlaysUptoCard : Claim7 := { stood := { row := dbbPlaysUptoRow, standIns := [], harness := (true, "bdda14d95cde71930ae856eeaef3a23b854bbf784dccab9cdc89e2a69128bb5a"), looks := true }, kinds := [], alts := [], laidByText := true, laidKinds := [.handle], laidTests := true, laidLooks := .later }
def DbbPlaysUptoCardSaid : Prop := Claim7.holds Tryz.pinned (.plain (OpenSpec.upto dbbPlaysSpec)) dbbPlaysUptoCard

/-- THE SECOND FORM's CARD OF 'byroadlaw14.DbbLasts'. -/
def dbbLastsUptoCard : Claim7 := { stood := { row := dbbLastsUptoRow, standIns := [], harness := (true, "bdda14d95cde71930ae856eeaef3a23b854bbf784dccab9cdc89e2a69128bb5a"), looks := true }, kinds := [], alts := [], laidByText := true, laidKinds := [.handle], laidTests := true, laidLooks := .later }
def DbbLastsUptoCardSaid : Prop := Claim7.holds Tryz.pinned (.plain (OpenSpec.upto dbbLastsSpec)) dbbLastsUptoCard
end Rows
end Go.Proofs.YtlaoookdegmnnaaGreatDoor
