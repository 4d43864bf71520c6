/-
  NARROWER THAN 'FOR EVERY INPUT', by the rows' own cells (each row's printed sentence says how): EtfReads: laid · EtfBack: laid · EtfAgain: laid · EtfCut: laid · EtfWrites: laid · EtfPackets: laid.
  DERIVED. THE GIVEN ROWS OF THIS SEAT. 6 by the template 'for every input the law returns true; each argument reads behind the call as it read before'; 0 by the template 'total and deterministic' (their statements: YtkhjdcnlpablkaaDoorTotals.lean).
  GIVEN WITH THE SEED: the statements are not yours to turn. If you find one false, say at which input.
  Laid BY PROGRAM, IN A SANDBOX (cutbox-rows.mjs): the forced cells as the released guide's own fill.sh prints them over the translation 61c80be8bb909f35… (all of the seat's roots in one cut). By AI agents, Wed Nov 11 2026. No macro, syntax, notation, axiom, sorry.
-/
import Derived.Test.YtkhjdcnlpablkaaDoorChecked
import GoSem.PinnedTables
import GoSem.Claim
import GoSem.ClaimJoined
import GoSem.ClaimMapViews
import Derived.JoinedTies
import Derived.KernelRfl
namespace Go.Proofs.YtkhjdcnlpablkaaDoor
/- THE CELL 'sum', in the pinned program and in every row, IS THE sha256 OF THE DUMP (.gsa) THAT YtkhjdcnlpablkaaDoorProg.lean LOADS. Nothing in Lean hashes anything: it is a label: what it is worth is what the hold of that sum in a sandbox is worth. -/
noncomputable def Tryd.pinned : Pinned := { name := "ytkhjdcnlpablkaadoor", sum := "61c80be8bb909f3560bec64bc8155e20d5ecc6e6fa52a24f04af8ae23ba80afd", checked := Tryd.checked }
namespace Rows
def none {H : Type} : Left H := { results := [], args := [] }

/- WHAT THE LISTED PACKAGE-LEVEL VARIABLES READ AS WHEN THE CALL BEGINS. Each datum BY PROGRAM (the guide's laid-datum.mjs) off the statement by which the dump's own 'gosem.cut.vars' lays the variable. In a bare row this is a premise. The card (YtkhjdcnlpablkaaDoorCards.lean) ties it to the program's text. -/
def laid_unicode_utf8_acceptRanges {H : Type} : DataW H := .agg [.agg [.lit (.int .u8 128), .lit (.int .u8 191)], .agg [.lit (.int .u8 160), .lit (.int .u8 191)], .agg [.lit (.int .u8 128), .lit (.int .u8 159)], .agg [.lit (.int .u8 144), .lit (.int .u8 191)], .agg [.lit (.int .u8 128), .lit (.int .u8 143)], .agg [.lit (.int .u8 0), .lit (.int .u8 0)], .agg [.lit (.int .u8 0), .lit (.int .u8 0)], .agg [.lit (.int .u8 0), .lit (.int .u8 0)], .agg [.lit (.int .u8 0), .lit (.int .u8 0)], .agg [.lit (.int .u8 0), .lit (.int .u8 0)], .agg [.lit (.int .u8 0), .lit (.int .u8 0)], .agg [.lit (.int .u8 0), .lit (.int .u8 0)], .agg [.lit (.int .u8 0), .lit (.int .u8 0)], .agg [.lit (.int .u8 0), .lit (.int .u8 0)], .agg [.lit (.int .u8 0), .lit (.int .u8 0)], .agg [.lit (.int .u8 0), .lit (.int .u8 0)]]
/-- One of Go's own tables, pinned by name: the form's constant. -/
def laid_unicode_utf8_first : DataW Unit := Go.Pinned.utf8First

/-- 'parleylaw06.EtfReads': WHATEVER THE INPUT: true; the input reads as it did. -/
def etfReadsSpec : ChangeSpec := { name := "etfReads", fn := fun _ => fun
  | [d] => { results := [.lit (.bool true)], args := [d] }
  | _ => none }
def etfReadsRow : OpenClaim := { program := "ytkhjdcnlpablkaadoor", sum := "61c80be8bb909f3560bec64bc8155e20d5ecc6e6fa52a24f04af8ae23ba80afd", func := "parley/parleylaw06.EtfReads", spec := "etfReads", recurses := true, named := ["unicode/utf8.first", "unicode/utf8.acceptRanges"], apart := false, laid := [("unicode/utf8.acceptRanges", laid_unicode_utf8_acceptRanges), ("unicode/utf8.first", laid_unicode_utf8_first)] }
def EtfReadsSaid : Prop := etfReadsRow.holds Tryd.pinned (OpenSpec.ofChange etfReadsSpec)

/-- ITS FALSE NEIGHBOUR: 'it returns false'. Refute it at one input. -/
def etfReadsWrong : ChangeSpec := { name := "etfReads", fn := fun _ => fun
  | [d] => { results := [.lit (.bool false)], args := [d] }
  | _ => none }
def EtfReadsWrongFalsely : Prop := etfReadsRow.holds Tryd.pinned (OpenSpec.ofChange etfReadsWrong)

/-- 'parleylaw06.EtfBack': WHATEVER THE INPUT: true; the input reads as it did. -/
def etfBackSpec : ChangeSpec := { name := "etfBack", fn := fun _ => fun
  | [d1, d2] => { results := [.lit (.bool true)], args := [d1, d2] }
  | _ => none }
def etfBackRow : OpenClaim := { program := "ytkhjdcnlpablkaadoor", sum := "61c80be8bb909f3560bec64bc8155e20d5ecc6e6fa52a24f04af8ae23ba80afd", func := "parley/parleylaw06.EtfBack", spec := "etfBack", recurses := true, named := ["unicode/utf8.first", "unicode/utf8.acceptRanges"], apart := false, laid := [("unicode/utf8.acceptRanges", laid_unicode_utf8_acceptRanges), ("unicode/utf8.first", laid_unicode_utf8_first)] }
def EtfBackSaid : Prop := etfBackRow.holds Tryd.pinned (OpenSpec.ofChange etfBackSpec)

/-- ITS FALSE NEIGHBOUR: 'it returns false'. Refute it at one input. -/
def etfBackWrong : ChangeSpec := { name := "etfBack", fn := fun _ => fun
  | [d1, d2] => { results := [.lit (.bool false)], args := [d1, d2] }
  | _ => none }
def EtfBackWrongFalsely : Prop := etfBackRow.holds Tryd.pinned (OpenSpec.ofChange etfBackWrong)

/-- 'parleylaw06.EtfAgain': WHATEVER THE INPUT: true; the input reads as it did. -/
def etfAgainSpec : ChangeSpec := { name := "etfAgain", fn := fun _ => fun
  | [d] => { results := [.lit (.bool true)], args := [d] }
  | _ => none }
def etfAgainRow : OpenClaim := { program := "ytkhjdcnlpablkaadoor", sum := "61c80be8bb909f3560bec64bc8155e20d5ecc6e6fa52a24f04af8ae23ba80afd", func := "parley/parleylaw06.EtfAgain", spec := "etfAgain", recurses := true, named := ["unicode/utf8.first", "unicode/utf8.acceptRanges"], apart := false, laid := [("unicode/utf8.acceptRanges", laid_unicode_utf8_acceptRanges), ("unicode/utf8.first", laid_unicode_utf8_first)] }
def EtfAgainSaid : Prop := etfAgainRow.holds Tryd.pinned (OpenSpec.ofChange etfAgainSpec)

/-- ITS FALSE NEIGHBOUR: 'it returns false'. Refute it at one input. -/
def etfAgainWrong : ChangeSpec := { name := "etfAgain", fn := fun _ => fun
  | [d] => { results := [.lit (.bool false)], args := [d] }
  | _ => none }
def EtfAgainWrongFalsely : Prop := etfAgainRow.holds Tryd.pinned (OpenSpec.ofChange etfAgainWrong)

/-- 'parleylaw06.EtfCut': WHATEVER THE INPUT: true; the input reads as it did. -/
def etfCutSpec : ChangeSpec := { name := "etfCut", fn := fun _ => fun
  | [d1, d2, d3] => { results := [.lit (.bool true)], args := [d1, d2, d3] }
  | _ => none }
def etfCutRow : OpenClaim := { program := "ytkhjdcnlpablkaadoor", sum := "61c80be8bb909f3560bec64bc8155e20d5ecc6e6fa52a24f04af8ae23ba80afd", func := "parley/parleylaw06.EtfCut", spec := "etfCut", recurses := true, named := ["unicode/utf8.first", "unicode/utf8.acceptRanges"], apart := false, laid := [("unicode/utf8.acceptRanges", laid_unicode_utf8_acceptRanges), ("unicode/utf8.first", laid_unicode_utf8_first)] }
def EtfCutSaid : Prop := etfCutRow.holds Tryd.pinned (OpenSpec.ofChange etfCutSpec)

/-- ITS FALSE NEIGHBOUR: 'it returns false'. Refute it at one input. -/
def etfCutWrong : ChangeSpec := { name := "etfCut", fn := fun _ => fun
  | [d1, d2, d3] => { results := [.lit (.bool false)], args := [d1, d2, d3] }
  | _ => none }
def EtfCutWrongFalsely : Prop := etfCutRow.holds Tryd.pinned (OpenSpec.ofChange etfCutWrong)

/-- 'parleylaw06.EtfWrites': WHATEVER THE INPUT: true; the input reads as it did. -/
def etfWritesSpec : ChangeSpec := { name := "etfWrites", fn := fun _ => fun
  | [d] => { results := [.lit (.bool true)], args := [d] }
  | _ => none }
def etfWritesRow : OpenClaim := { program := "ytkhjdcnlpablkaadoor", sum := "61c80be8bb909f3560bec64bc8155e20d5ecc6e6fa52a24f04af8ae23ba80afd", func := "parley/parleylaw06.EtfWrites", spec := "etfWrites", recurses := true, named := ["unicode/utf8.first", "unicode/utf8.acceptRanges"], apart := false, laid := [("unicode/utf8.acceptRanges", laid_unicode_utf8_acceptRanges), ("unicode/utf8.first", laid_unicode_utf8_first)] }
def EtfWritesSaid : Prop := etfWritesRow.holds Tryd.pinned (OpenSpec.ofChange etfWritesSpec)

/-- ITS FALSE NEIGHBOUR: 'it returns false'. Refute it at one input. -/
def etfWritesWrong : ChangeSpec := { name := "etfWrites", fn := fun _ => fun
  | [d] => { results := [.lit (.bool false)], args := [d] }
  | _ => none }
def EtfWritesWrongFalsely : Prop := etfWritesRow.holds Tryd.pinned (OpenSpec.ofChange etfWritesWrong)

/-- 'parleylaw06.EtfPackets': WHATEVER THE INPUT: true; the input reads as it did. -/
def etfPacketsSpec : ChangeSpec := { name := "etfPackets", fn := fun _ => fun
  | [d1, d2] => { results := [.lit (.bool true)], args := [d1, d2] }
  | _ => none }
def etfPacketsRow : OpenClaim := { program := "ytkhjdcnlpablkaadoor", sum := "61c80be8bb909f3560bec64bc8155e20d5ecc6e6fa52a24f04af8ae23ba80afd", func := "parley/parleylaw06.EtfPackets", spec := "etfPackets", recurses := true, named := ["unicode/utf8.first", "unicode/utf8.acceptRanges"], apart := false, laid := [("unicode/utf8.acceptRanges", laid_unicode_utf8_acceptRanges), ("unicode/utf8.first", laid_unicode_utf8_first)] }
def EtfPacketsSaid : Prop := etfPacketsRow.holds Tryd.pinned (OpenSpec.ofChange etfPacketsSpec)

/-- ITS FALSE NEIGHBOUR: 'it returns false'. Refute it at one input. -/
def etfPacketsWrong : ChangeSpec := { name := "etfPackets", fn := fun _ => fun
  | [d1, d2] => { results := [.lit (.bool false)], args := [d1, d2] }
  | _ => none }
def EtfPacketsWrongFalsely : Prop := etfPacketsRow.holds Tryd.pinned (OpenSpec.ofChange etfPacketsWrong)

/- THE SECOND FORM. 'bulk': how many values and letters a reading holds, each counted each time it is reached (what is shared counts as often as it is met; a slice's spare places count too). A statement '..UptoSaid' is the law's where the arguments, and the package variables that the reading takes, are together of bulk at most 1048576: NARROWER than '..Said'. Prove '..Said' where nothing that the law and all that it calls make is longer than what came in: it says more and counts as full. Else prove '..UptoSaid'. A law counts once. -/
mutual
def uptoBulk {H : Type} : DataW H → Nat
  | .lit (.string bytes) => bytes.length + 1
  | .lit _ => 1
  | .nil => 1
  | .ptr d => uptoBulk d + 1
  | .slice elems spare => uptoBulkAll elems + uptoBulkAll spare + 1
  | .agg parts => uptoBulkAll parts + 1
  | .iface _ d => uptoBulk d + 1
  | .map entries => uptoBulkEntries entries + 1
  | .held _ => 1
def uptoBulkAll {H : Type} : List (DataW H) → Nat
  | [] => 0
  | d :: r => uptoBulk d + uptoBulkAll r
def uptoBulkEntries {H : Type} : List (Lit × DataW H) → Nat
  | [] => 0
  | x :: r => uptoBulkEntry x + uptoBulkEntries r
def uptoBulkEntry {H : Type} : Lit × DataW H → Nat
  | (.string bytes, d) => bytes.length + uptoBulk d + 1
  | (_, d) => uptoBulk d + 1
 end
def uptoSmall : (H : Type) → List (DataW H) → Bool := fun _ ds => decide (uptoBulkAll ds ≤ 1048576)
def OpenSpec.upto (s : _root_.Go.ChangeSpec) : _root_.Go.OpenSpec := { _root_.Go.OpenSpec.ofChange s with cond := some uptoSmall }

/-- 'parleylaw06.EtfReads', WHERE WHAT IT READS IS OF BULK AT MOST 1048576: true; the input reads as it did. -/
def etfReadsUptoRow : OpenClaim := { program := "ytkhjdcnlpablkaadoor", sum := "61c80be8bb909f3560bec64bc8155e20d5ecc6e6fa52a24f04af8ae23ba80afd", func := "parley/parleylaw06.EtfReads", spec := "etfReads", recurses := true, named := ["unicode/utf8.first", "unicode/utf8.acceptRanges"], apart := false, laid := [("unicode/utf8.acceptRanges", laid_unicode_utf8_acceptRanges), ("unicode/utf8.first", laid_unicode_utf8_first)], narrowed := true }
def EtfReadsUptoSaid : Prop := etfReadsUptoRow.holds Tryd.pinned (OpenSpec.upto etfReadsSpec)

/-- 'parleylaw06.EtfBack', WHERE WHAT IT READS IS OF BULK AT MOST 1048576: true; the input reads as it did. -/
def etfBackUptoRow : OpenClaim := { program := "ytkhjdcnlpablkaadoor", sum := "61c80be8bb909f3560bec64bc8155e20d5ecc6e6fa52a24f04af8ae23ba80afd", func := "parley/parleylaw06.EtfBack", spec := "etfBack", recurses := true, named := ["unicode/utf8.first", "unicode/utf8.acceptRanges"], apart := false, laid := [("unicode/utf8.acceptRanges", laid_unicode_utf8_acceptRanges), ("unicode/utf8.first", laid_unicode_utf8_first)], narrowed := true }
def EtfBackUptoSaid : Prop := etfBackUptoRow.holds Tryd.pinned (OpenSpec.upto etfBackSpec)

/-- 'parleylaw06.EtfAgain', WHERE WHAT IT READS IS OF BULK AT MOST 1048576: true; the input reads as it did. -/
def etfAgainUptoRow : OpenClaim := { program := "ytkhjdcnlpablkaadoor", sum := "61c80be8bb909f3560bec64bc8155e20d5ecc6e6fa52a24f04af8ae23ba80afd", func := "parley/parleylaw06.EtfAgain", spec := "etfAgain", recurses := true, named := ["unicode/utf8.first", "unicode/utf8.acceptRanges"], apart := false, laid := [("unicode/utf8.acceptRanges", laid_unicode_utf8_acceptRanges), ("unicode/utf8.first", laid_unicode_utf8_first)], narrowed := true }
def EtfAgainUptoSaid : Prop := etfAgainUptoRow.holds Tryd.pinned (OpenSpec.upto etfAgainSpec)

/-- 'parleylaw06.EtfCut', WHERE WHAT IT READS IS OF BULK AT MOST 1048576: true; the input reads as it did. -/
def etfCutUptoRow : OpenClaim := { program := "ytkhjdcnlpablkaadoor", sum := "61c80be8bb909f3560bec64bc8155e20d5ecc6e6fa52a24f04af8ae23ba80afd", func := "parley/parleylaw06.EtfCut", spec := "etfCut", recurses := true, named := ["unicode/utf8.first", "unicode/utf8.acceptRanges"], apart := false, laid := [("unicode/utf8.acceptRanges", laid_unicode_utf8_acceptRanges), ("unicode/utf8.first", laid_unicode_utf8_first)], narrowed := true }
def EtfCutUptoSaid : Prop := etfCutUptoRow.holds Tryd.pinned (OpenSpec.upto etfCutSpec)

/-- 'parleylaw06.EtfWrites', WHERE WHAT IT READS IS OF BULK AT MOST 1048576: true; the input reads as it did. -/
def etfWritesUptoRow : OpenClaim := { program := "ytkhjdcnlpablkaadoor", sum := "61c80be8bb909f3560bec64bc8155e20d5ecc6e6fa52a24f04af8ae23ba80afd", func := "parley/parleylaw06.EtfWrites", spec := "etfWrites", recurses := true, named := ["unicode/utf8.first", "unicode/utf8.acceptRanges"], apart := false, laid := [("unicode/utf8.acceptRanges", laid_unicode_utf8_acceptRanges), ("unicode/utf8.first", laid_unicode_utf8_first)], narrowed := true }
def EtfWritesUptoSaid : Prop := etfWritesUptoRow.holds Tryd.pinned (OpenSpec.upto etfWritesSpec)

/-- 'parleylaw06.EtfPackets', WHERE WHAT IT READS IS OF BULK AT MOST 1048576: true; the input reads as it did. -/
def etfPacketsUptoRow : OpenClaim := { program := "ytkhjdcnlpablkaadoor", sum := "61c80be8bb909f3560bec64bc8155e20d5ecc6e6fa52a24f04af8ae23ba80afd", func := "parley/parleylaw06.EtfPackets", spec := "etfPackets", recurses := true, named := ["unicode/utf8.first", "unicode/utf8.acceptRanges"], apart := false, laid := [("unicode/utf8.acceptRanges", laid_unicode_utf8_acceptRanges), ("unicode/utf8.first", laid_unicode_utf8_first)], narrowed := true }
def EtfPacketsUptoSaid : Prop := etfPacketsUptoRow.holds Tryd.pinned (OpenSpec.upto etfPacketsSpec)

end Rows
end Go.Proofs.YtkhjdcnlpablkaaDoor
