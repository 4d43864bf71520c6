/-
  DERIVED. GIVEN WITH THE SEED: THE CARDS: each row of YtkhjdcnlpablkaaDoorRows.lean that lists a variable, with what it lists TIED to the program's text (the seventh form; the later family's looks); each row that meets fmt, with fmt's text TOLD by the authors' own Lean function (tested against real Go, not proved from fmt's source: count such statements apart). THE CARD IS WHAT COUNTS. Prove the row's statement (the work); the ties are given (YtkhjdcnlpablkaaDoorTie.lean); close each card by the builder's one call (the guide's Derived/Test/ToyasCard.lean, 'card_holds'). Laid BY PROGRAM, IN A SANDBOX (cutbox-door.mjs). By AI agents, Wed Nov 11 2026. No macro, syntax, notation, axiom, sorry.
-/
import Derived.Test.YtkhjdcnlpablkaaDoorRows
import GoSem.ClaimSeven
namespace Go.Proofs.YtkhjdcnlpablkaaDoor
namespace Rows

/-- THE TIED CARD OF 'parleylaw06.EtfReads'. -/
def etfReadsCard : Claim7 := { stood := { row := etfReadsRow, standIns := [], harness := (true, "ebea902d0184f27cec88de027c870f8d860822fda3ca8ee1b999f8490945d3f8"), looks := false }, kinds := [], alts := [], laidByText := true, laidKinds := [.data, .pinned], laidTests := true, laidLooks := .later }
def EtfReadsCardSaid : Prop := Claim7.holds Tryd.pinned (.plain (OpenSpec.ofChange etfReadsSpec)) etfReadsCard

/-- THE TIED CARD OF 'parleylaw06.EtfBack'. -/
def etfBackCard : Claim7 := { stood := { row := etfBackRow, standIns := [], harness := (true, "ebea902d0184f27cec88de027c870f8d860822fda3ca8ee1b999f8490945d3f8"), looks := false }, kinds := [], alts := [], laidByText := true, laidKinds := [.data, .pinned], laidTests := true, laidLooks := .later }
def EtfBackCardSaid : Prop := Claim7.holds Tryd.pinned (.plain (OpenSpec.ofChange etfBackSpec)) etfBackCard

/-- THE TIED CARD OF 'parleylaw06.EtfAgain'. -/
def etfAgainCard : Claim7 := { stood := { row := etfAgainRow, standIns := [], harness := (true, "ebea902d0184f27cec88de027c870f8d860822fda3ca8ee1b999f8490945d3f8"), looks := false }, kinds := [], alts := [], laidByText := true, laidKinds := [.data, .pinned], laidTests := true, laidLooks := .later }
def EtfAgainCardSaid : Prop := Claim7.holds Tryd.pinned (.plain (OpenSpec.ofChange etfAgainSpec)) etfAgainCard

/-- THE TIED CARD OF 'parleylaw06.EtfCut'. -/
def etfCutCard : Claim7 := { stood := { row := etfCutRow, standIns := [], harness := (true, "ebea902d0184f27cec88de027c870f8d860822fda3ca8ee1b999f8490945d3f8"), looks := false }, kinds := [], alts := [], laidByText := true, laidKinds := [.data, .pinned], laidTests := true, laidLooks := .later }
def EtfCutCardSaid : Prop := Claim7.holds Tryd.pinned (.plain (OpenSpec.ofChange etfCutSpec)) etfCutCard

/-- THE TIED CARD OF 'parleylaw06.EtfWrites'. -/
def etfWritesCard : Claim7 := { stood := { row := etfWritesRow, standIns := [], harness := (true, "ebea902d0184f27cec88de027c870f8d860822fda3ca8ee1b999f8490945d3f8"), looks := false }, kinds := [], alts := [], laidByText := true, laidKinds := [.data, .pinned], laidTests := true, laidLooks := .later }
def EtfWritesCardSaid : Prop := Claim7.holds Tryd.pinned (.plain (OpenSpec.ofChange etfWritesSpec)) etfWritesCard

/-- THE TIED CARD OF 'parleylaw06.EtfPackets'. -/
def etfPacketsCard : Claim7 := { stood := { row := etfPacketsRow, standIns := [], harness := (true, "ebea902d0184f27cec88de027c870f8d860822fda3ca8ee1b999f8490945d3f8"), looks := false }, kinds := [], alts := [], laidByText := true, laidKinds := [.data, .pinned], laidTests := true, laidLooks := .later }
def EtfPacketsCardSaid : Prop := Claim7.holds Tryd.pinned (.plain (OpenSpec.ofChange etfPacketsSpec)) etfPacketsCard

/-- THE SECOND FORM's CARD OF 'parleylaw06.EtfReads'. -/
def etfReadsUptoCard : Claim7 := { stood := { row := etfReadsUptoRow, standIns := [], harness := (true, "ebea902d0184f27cec88de027c870f8d860822fda3ca8ee1b999f8490945d3f8"), looks := false }, kinds := [], alts := [], laidByText := true, laidKinds := [.data, .pinned], laidTests := true, laidLooks := .later }
def EtfReadsUptoCardSaid : Prop := Claim7.holds Tryd.pinned (.plain (OpenSpec.upto etfReadsSpec)) etfReadsUptoCard

/-- THE SECOND FORM's CARD OF 'parleylaw06.EtfBack'. -/
def etfBackUptoCard : Claim7 := { stood := { row := etfBackUptoRow, standIns := [], harness := (true, "ebea902d0184f27cec88de027c870f8d860822fda3ca8ee1b999f8490945d3f8"), looks := false }, kinds := [], alts := [], laidByText := true, laidKinds := [.data, .pinned], laidTests := true, laidLooks := .later }
def EtfBackUptoCardSaid : Prop := Claim7.holds Tryd.pinned (.plain (OpenSpec.upto etfBackSpec)) etfBackUptoCard

/-- THE SECOND FORM's CARD OF 'parleylaw06.EtfAgain'. -/
def etfAgainUptoCard : Claim7 := { stood := { row := etfAgainUptoRow, standIns := [], harness := (true, "ebea902d0184f27cec88de027c870f8d860822fda3ca8ee1b999f8490945d3f8"), looks := false }, kinds := [], alts := [], laidByText := true, laidKinds := [.data, .pinned], laidTests := true, laidLooks := .later }
def EtfAgainUptoCardSaid : Prop := Claim7.holds Tryd.pinned (.plain (OpenSpec.upto etfAgainSpec)) etfAgainUptoCard

/-- THE SECOND FORM's CARD OF 'parleylaw06.EtfCut'. -/
def etfCutUptoCard : Claim7 := { stood := { row := etfCutUptoRow, standIns := [], harness := (true, "ebea902d0184f27cec88de027c870f8d860822fda3ca8ee1b999f8490945d3f8"), looks := false }, kinds := [], alts := [], laidByText := true, laidKinds := [.data, .pinned], laidTests := true, laidLooks := .later }
def EtfCutUptoCardSaid : Prop := Claim7.holds Tryd.pinned (.plain (OpenSpec.upto etfCutSpec)) etfCutUptoCard

/-- THE SECOND FORM's CARD OF 'parleylaw06.EtfWrites'. -/
def etfWritesUptoCard : Claim7 := { stood := { row := etfWritesUptoRow, standIns := [], harness := (true, "ebea902d0184f27cec88de027c870f8d860822fda3ca8ee1b999f8490945d3f8"), looks := false }, kinds := [], alts := [], laidByText := true, laidKinds := [.data, .pinned], laidTests := true, laidLooks := .later }
def EtfWritesUptoCardSaid : Prop := Claim7.holds Tryd.pinned (.plain (OpenSpec.upto etfWritesSpec)) etfWritesUptoCard

/-- THE SECOND FORM's CARD OF 'parleylaw06.EtfPackets'. -/
def etfPacketsUptoCard : Claim7 := { stood := { row := etfPacketsUptoRow, standIns := [], harness := (true, "ebea902d0184f27cec88de027c870f8d860822fda3ca8ee1b999f8490945d3f8"), looks := false }, kinds := [], alts := [], laidByText := true, laidKinds := [.data, .pinned], laidTests := true, laidLooks := .later }
def EtfPacketsUptoCardSaid : Prop := Claim7.holds Tryd.pinned (.plain (OpenSpec.upto etfPacketsSpec)) etfPacketsUptoCard
end Rows
end Go.Proofs.YtkhjdcnlpablkaaDoor
