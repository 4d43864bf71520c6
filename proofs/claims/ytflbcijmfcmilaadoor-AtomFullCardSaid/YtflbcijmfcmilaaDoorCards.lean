/-
  DERIVED. GIVEN WITH THE SEED: THE CARDS: each row of YtflbcijmfcmilaaDoorRows.lean that lists a variable, with what it lists TIED to the program's text (the seventh form; the later family's looks); each row that meets fmt, with fmt's text TOLD by the authors' own Lean function (tested against real Go, not proved from fmt's source: count such statements apart). THE CARD IS WHAT COUNTS. Prove the row's statement (the work); the ties are given (YtflbcijmfcmilaaDoorTie.lean); close each card by the builder's one call (the guide's Derived/Test/ToyasCard.lean, 'card_holds'). Laid BY PROGRAM, IN A SANDBOX (cutbox-door.mjs). By AI agents, Wed Nov 11 2026. No macro, syntax, notation, axiom, sorry.
-/
import Derived.Test.YtflbcijmfcmilaaDoorRows
import GoSem.ClaimSeven
namespace Go.Proofs.YtflbcijmfcmilaaDoor
namespace Rows

/-- THE TIED CARD OF 'parleylaw02.AtomWrites'. -/
def atomWritesCard : Claim7 := { stood := { row := atomWritesRow, standIns := [], harness := (true, "f636adf706287ea8ac4af381578163e57d6c8b1351893eb96e512f8a159c8cff"), looks := false }, kinds := [], alts := [], laidByText := true, laidKinds := [.data, .data, .data, .data, .pinned], laidTests := true, laidLooks := .later }
def AtomWritesCardSaid : Prop := Claim7.holds Tryd.pinned (.plain (OpenSpec.ofChange atomWritesSpec)) atomWritesCard

/-- THE TIED CARD OF 'parleylaw02.AtomReads'. -/
def atomReadsCard : Claim7 := { stood := { row := atomReadsRow, standIns := [], harness := (true, "f636adf706287ea8ac4af381578163e57d6c8b1351893eb96e512f8a159c8cff"), looks := false }, kinds := [], alts := [], laidByText := true, laidKinds := [.data, .data, .data, .data, .pinned], laidTests := true, laidLooks := .later }
def AtomReadsCardSaid : Prop := Claim7.holds Tryd.pinned (.plain (OpenSpec.ofChange atomReadsSpec)) atomReadsCard

/-- THE TIED CARD OF 'parleylaw02.AtomOrders'. -/
def atomOrdersCard : Claim7 := { stood := { row := atomOrdersRow, standIns := [], harness := (true, "f636adf706287ea8ac4af381578163e57d6c8b1351893eb96e512f8a159c8cff"), looks := false }, kinds := [], alts := [], laidByText := true, laidKinds := [.data, .data, .data, .data, .pinned], laidTests := true, laidLooks := .later }
def AtomOrdersCardSaid : Prop := Claim7.holds Tryd.pinned (.plain (OpenSpec.ofChange atomOrdersSpec)) atomOrdersCard

/-- THE TIED CARD OF 'parleylaw02.AtomBack'. -/
def atomBackCard : Claim7 := { stood := { row := atomBackRow, standIns := [], harness := (true, "f636adf706287ea8ac4af381578163e57d6c8b1351893eb96e512f8a159c8cff"), looks := false }, kinds := [], alts := [], laidByText := true, laidKinds := [.data, .data, .data, .data, .pinned], laidTests := true, laidLooks := .later }
def AtomBackCardSaid : Prop := Claim7.holds Tryd.pinned (.plain (OpenSpec.ofChange atomBackSpec)) atomBackCard

/-- THE TIED CARD OF 'parleylaw02.AtomAgain'. -/
def atomAgainCard : Claim7 := { stood := { row := atomAgainRow, standIns := [], harness := (true, "f636adf706287ea8ac4af381578163e57d6c8b1351893eb96e512f8a159c8cff"), looks := false }, kinds := [], alts := [], laidByText := true, laidKinds := [.data, .data, .data, .data, .pinned], laidTests := true, laidLooks := .later }
def AtomAgainCardSaid : Prop := Claim7.holds Tryd.pinned (.plain (OpenSpec.ofChange atomAgainSpec)) atomAgainCard

/-- THE TIED CARD OF 'parleylaw02.AtomFull'. -/
def atomFullCard : Claim7 := { stood := { row := atomFullRow, standIns := [], harness := (true, "f636adf706287ea8ac4af381578163e57d6c8b1351893eb96e512f8a159c8cff"), looks := false }, kinds := [], alts := [], laidByText := true, laidKinds := [.data, .data, .data, .data, .pinned], laidTests := true, laidLooks := .later }
def AtomFullCardSaid : Prop := Claim7.holds Tryd.pinned (.plain (OpenSpec.ofChange atomFullSpec)) atomFullCard

/-- THE TIED CARD OF 'parleylaw02.AtomNil'. -/
def atomNilCard : Claim7 := { stood := { row := atomNilRow, standIns := [], harness := (true, "f636adf706287ea8ac4af381578163e57d6c8b1351893eb96e512f8a159c8cff"), looks := false }, kinds := [], alts := [], laidByText := true, laidKinds := [.data, .data, .data, .data, .pinned], laidTests := true, laidLooks := .later }
def AtomNilCardSaid : Prop := Claim7.holds Tryd.pinned (.plain (OpenSpec.ofChange atomNilSpec)) atomNilCard

/-- THE TIED CARD OF 'parleylaw02.AtomTables'. -/
def atomTablesCard : Claim7 := { stood := { row := atomTablesRow, standIns := [], harness := (true, "f636adf706287ea8ac4af381578163e57d6c8b1351893eb96e512f8a159c8cff"), looks := false }, kinds := [], alts := [], laidByText := true, laidKinds := [.data, .data, .data, .data, .pinned], laidTests := true, laidLooks := .later }
def AtomTablesCardSaid : Prop := Claim7.holds Tryd.pinned (.plain (OpenSpec.ofChange atomTablesSpec)) atomTablesCard

/-- THE SECOND FORM's CARD OF 'parleylaw02.AtomWrites'. -/
def atomWritesUptoCard : Claim7 := { stood := { row := atomWritesUptoRow, standIns := [], harness := (true, "f636adf706287ea8ac4af381578163e57d6c8b1351893eb96e512f8a159c8cff"), looks := false }, kinds := [], alts := [], laidByText := true, laidKinds := [.data, .data, .data, .data, .pinned], laidTests := true, laidLooks := .later }
def AtomWritesUptoCardSaid : Prop := Claim7.holds Tryd.pinned (.plain (OpenSpec.upto atomWritesSpec)) atomWritesUptoCard

/-- THE SECOND FORM's CARD OF 'parleylaw02.AtomReads'. -/
def atomReadsUptoCard : Claim7 := { stood := { row := atomReadsUptoRow, standIns := [], harness := (true, "f636adf706287ea8ac4af381578163e57d6c8b1351893eb96e512f8a159c8cff"), looks := false }, kinds := [], alts := [], laidByText := true, laidKinds := [.data, .data, .data, .data, .pinned], laidTests := true, laidLooks := .later }
def AtomReadsUptoCardSaid : Prop := Claim7.holds Tryd.pinned (.plain (OpenSpec.upto atomReadsSpec)) atomReadsUptoCard

/-- THE SECOND FORM's CARD OF 'parleylaw02.AtomOrders'. -/
def atomOrdersUptoCard : Claim7 := { stood := { row := atomOrdersUptoRow, standIns := [], harness := (true, "f636adf706287ea8ac4af381578163e57d6c8b1351893eb96e512f8a159c8cff"), looks := false }, kinds := [], alts := [], laidByText := true, laidKinds := [.data, .data, .data, .data, .pinned], laidTests := true, laidLooks := .later }
def AtomOrdersUptoCardSaid : Prop := Claim7.holds Tryd.pinned (.plain (OpenSpec.upto atomOrdersSpec)) atomOrdersUptoCard

/-- THE SECOND FORM's CARD OF 'parleylaw02.AtomBack'. -/
def atomBackUptoCard : Claim7 := { stood := { row := atomBackUptoRow, standIns := [], harness := (true, "f636adf706287ea8ac4af381578163e57d6c8b1351893eb96e512f8a159c8cff"), looks := false }, kinds := [], alts := [], laidByText := true, laidKinds := [.data, .data, .data, .data, .pinned], laidTests := true, laidLooks := .later }
def AtomBackUptoCardSaid : Prop := Claim7.holds Tryd.pinned (.plain (OpenSpec.upto atomBackSpec)) atomBackUptoCard

/-- THE SECOND FORM's CARD OF 'parleylaw02.AtomAgain'. -/
def atomAgainUptoCard : Claim7 := { stood := { row := atomAgainUptoRow, standIns := [], harness := (true, "f636adf706287ea8ac4af381578163e57d6c8b1351893eb96e512f8a159c8cff"), looks := false }, kinds := [], alts := [], laidByText := true, laidKinds := [.data, .data, .data, .data, .pinned], laidTests := true, laidLooks := .later }
def AtomAgainUptoCardSaid : Prop := Claim7.holds Tryd.pinned (.plain (OpenSpec.upto atomAgainSpec)) atomAgainUptoCard

/-- THE SECOND FORM's CARD OF 'parleylaw02.AtomFull'. -/
def atomFullUptoCard : Claim7 := { stood := { row := atomFullUptoRow, standIns := [], harness := (true, "f636adf706287ea8ac4af381578163e57d6c8b1351893eb96e512f8a159c8cff"), looks := false }, kinds := [], alts := [], laidByText := true, laidKinds := [.data, .data, .data, .data, .pinned], laidTests := true, laidLooks := .later }
def AtomFullUptoCardSaid : Prop := Claim7.holds Tryd.pinned (.plain (OpenSpec.upto atomFullSpec)) atomFullUptoCard

/-- THE SECOND FORM's CARD OF 'parleylaw02.AtomNil'. -/
def atomNilUptoCard : Claim7 := { stood := { row := atomNilUptoRow, standIns := [], harness := (true, "f636adf706287ea8ac4af381578163e57d6c8b1351893eb96e512f8a159c8cff"), looks := false }, kinds := [], alts := [], laidByText := true, laidKinds := [.data, .data, .data, .data, .pinned], laidTests := true, laidLooks := .later }
def AtomNilUptoCardSaid : Prop := Claim7.holds Tryd.pinned (.plain (OpenSpec.upto atomNilSpec)) atomNilUptoCard

/-- THE SECOND FORM's CARD OF 'parleylaw02.AtomTables'. -/
def atomTablesUptoCard : Claim7 := { stood := { row := atomTablesUptoRow, standIns := [], harness := (true, "f636adf706287ea8ac4af381578163e57d6c8b1351893eb96e512f8a159c8cff"), looks := false }, kinds := [], alts := [], laidByText := true, laidKinds := [.data, .data, .data, .data, .pinned], laidTests := true, laidLooks := .later }
def AtomTablesUptoCardSaid : Prop := Claim7.holds Tryd.pinned (.plain (OpenSpec.upto atomTablesSpec)) atomTablesUptoCard
end Rows
end Go.Proofs.YtflbcijmfcmilaaDoor
