/-
  No cell of these rows narrows 'for every input' (looked for: loops, veiled, ifaces, maps, wideKeys, modest, calm, conditions, laid).
  DERIVED. THE GIVEN ROWS OF THIS SEAT. 5 by the template 'for every input the law returns true; each argument reads behind the call as it read before'; 0 by the template 'total and deterministic' (their statements: YtbedgeimpobhdaaTotals.lean).
  GIVEN WITH THE SEED: the statements are not yours to turn. If you find one false, say at which input.
  Laid BY PROGRAM, IN A SANDBOX (cutbox-rows.mjs): the forced cells as the released guide's own fill.sh prints them over the translation 26bc6f5d40de03f8… (all of the seat's roots in one cut). By AI agents, Wed Nov 11 2026. No macro, syntax, notation, axiom, sorry.
-/
import Derived.Test.YtbedgeimpobhdaaChecked
import GoSem.Claim
import GoSem.ClaimJoined
import GoSem.ClaimMapViews
import Derived.JoinedTies
import Derived.KernelRfl
namespace Go.Proofs.Ytbedgeimpobhdaa
/- THE CELL 'sum', in the pinned program and in every row, IS THE sha256 OF THE DUMP (.gsa) THAT YtbedgeimpobhdaaProg.lean LOADS. Nothing in Lean hashes anything: it is a label: what it is worth is what the hold of that sum in a sandbox is worth. -/
noncomputable def Try.pinned : Pinned := { name := "ytbedgeimpobhdaa", sum := "26bc6f5d40de03f8e9e300e60ebb57a82bb56e2be90b5f3962d7df229d19dd6f", checked := Try.checked }
namespace Rows
def none {H : Type} : Left H := { results := [], args := [] }

/-- 'parleylaw11.PlainAgain': WHATEVER THE INPUT: true; the input reads as it did. -/
def plainAgainSpec : ChangeSpec := { name := "plainAgain", fn := fun _ => fun
  | [d1, d2, d3] => { results := [.lit (.bool true)], args := [d1, d2, d3] }
  | _ => none }
def plainAgainRow : OpenClaim := { program := "ytbedgeimpobhdaa", sum := "26bc6f5d40de03f8e9e300e60ebb57a82bb56e2be90b5f3962d7df229d19dd6f", func := "parley/parleylaw11.PlainAgain", spec := "plainAgain", apart := false }
def PlainAgainSaid : Prop := plainAgainRow.holds Try.pinned (OpenSpec.ofChange plainAgainSpec)

/-- ITS FALSE NEIGHBOUR: 'it returns false'. Refute it at one input. -/
def plainAgainWrong : ChangeSpec := { name := "plainAgain", fn := fun _ => fun
  | [d1, d2, d3] => { results := [.lit (.bool false)], args := [d1, d2, d3] }
  | _ => none }
def PlainAgainWrongFalsely : Prop := plainAgainRow.holds Try.pinned (OpenSpec.ofChange plainAgainWrong)

/-- 'parleylaw11.PlainFull': WHATEVER THE INPUT: true; the input reads as it did. -/
def plainFullSpec : ChangeSpec := { name := "plainFull", fn := fun _ => fun
  | [d1, d2] => { results := [.lit (.bool true)], args := [d1, d2] }
  | _ => none }
def plainFullRow : OpenClaim := { program := "ytbedgeimpobhdaa", sum := "26bc6f5d40de03f8e9e300e60ebb57a82bb56e2be90b5f3962d7df229d19dd6f", func := "parley/parleylaw11.PlainFull", spec := "plainFull", unfollowed := true, recurses := true, apart := false }
def PlainFullSaid : Prop := plainFullRow.holds Try.pinned (OpenSpec.ofChange plainFullSpec)

/-- ITS FALSE NEIGHBOUR: 'it returns false'. Refute it at one input. -/
def plainFullWrong : ChangeSpec := { name := "plainFull", fn := fun _ => fun
  | [d1, d2] => { results := [.lit (.bool false)], args := [d1, d2] }
  | _ => none }
def PlainFullWrongFalsely : Prop := plainFullRow.holds Try.pinned (OpenSpec.ofChange plainFullWrong)

/-- 'parleylaw11.PlainFirst': WHATEVER THE INPUT: true; the input reads as it did. -/
def plainFirstSpec : ChangeSpec := { name := "plainFirst", fn := fun _ => fun
  | [d1, d2] => { results := [.lit (.bool true)], args := [d1, d2] }
  | _ => none }
def plainFirstRow : OpenClaim := { program := "ytbedgeimpobhdaa", sum := "26bc6f5d40de03f8e9e300e60ebb57a82bb56e2be90b5f3962d7df229d19dd6f", func := "parley/parleylaw11.PlainFirst", spec := "plainFirst", unfollowed := true, recurses := true, apart := false }
def PlainFirstSaid : Prop := plainFirstRow.holds Try.pinned (OpenSpec.ofChange plainFirstSpec)

/-- ITS FALSE NEIGHBOUR: 'it returns false'. Refute it at one input. -/
def plainFirstWrong : ChangeSpec := { name := "plainFirst", fn := fun _ => fun
  | [d1, d2] => { results := [.lit (.bool false)], args := [d1, d2] }
  | _ => none }
def PlainFirstWrongFalsely : Prop := plainFirstRow.holds Try.pinned (OpenSpec.ofChange plainFirstWrong)

/-- 'parleylaw11.PlainPlays': WHATEVER THE INPUT: true; the input reads as it did. -/
def plainPlaysSpec : ChangeSpec := { name := "plainPlays", fn := fun _ => fun
  | [d1, d2] => { results := [.lit (.bool true)], args := [d1, d2] }
  | _ => none }
def plainPlaysRow : OpenClaim := { program := "ytbedgeimpobhdaa", sum := "26bc6f5d40de03f8e9e300e60ebb57a82bb56e2be90b5f3962d7df229d19dd6f", func := "parley/parleylaw11.PlainPlays", spec := "plainPlays", unfollowed := true, recurses := true, apart := false }
def PlainPlaysSaid : Prop := plainPlaysRow.holds Try.pinned (OpenSpec.ofChange plainPlaysSpec)

/-- ITS FALSE NEIGHBOUR: 'it returns false'. Refute it at one input. -/
def plainPlaysWrong : ChangeSpec := { name := "plainPlays", fn := fun _ => fun
  | [d1, d2] => { results := [.lit (.bool false)], args := [d1, d2] }
  | _ => none }
def PlainPlaysWrongFalsely : Prop := plainPlaysRow.holds Try.pinned (OpenSpec.ofChange plainPlaysWrong)

/-- 'parleylaw11.PlainNil': WHATEVER THE INPUT: true; the input reads as it did. -/
def plainNilSpec : ChangeSpec := { name := "plainNil", fn := fun _ => fun
  | [d1, d2, d3] => { results := [.lit (.bool true)], args := [d1, d2, d3] }
  | _ => none }
def plainNilRow : OpenClaim := { program := "ytbedgeimpobhdaa", sum := "26bc6f5d40de03f8e9e300e60ebb57a82bb56e2be90b5f3962d7df229d19dd6f", func := "parley/parleylaw11.PlainNil", spec := "plainNil", unfollowed := true, recurses := true, apart := false }
def PlainNilSaid : Prop := plainNilRow.holds Try.pinned (OpenSpec.ofChange plainNilSpec)

/-- ITS FALSE NEIGHBOUR: 'it returns false'. Refute it at one input. -/
def plainNilWrong : ChangeSpec := { name := "plainNil", fn := fun _ => fun
  | [d1, d2, d3] => { results := [.lit (.bool false)], args := [d1, d2, d3] }
  | _ => none }
def PlainNilWrongFalsely : Prop := plainNilRow.holds Try.pinned (OpenSpec.ofChange plainNilWrong)

/- THE SECOND FORM. 'bulk': how many values and letters a reading holds, each counted each time it is reached (what is shared counts as often as it is met; a slice's spare places count too). A statement '..UptoSaid' is the law's where the arguments, and the package variables that the reading takes, are together of bulk at most 1048576: NARROWER than '..Said'. Prove '..Said' where nothing that the law and all that it calls make is longer than what came in: it says more and counts as full. Else prove '..UptoSaid'. A law counts once. -/
mutual
def uptoBulk {H : Type} : DataW H → Nat
  | .lit (.string bytes) => bytes.length + 1
  | .lit _ => 1
  | .nil => 1
  | .ptr d => uptoBulk d + 1
  | .slice elems spare => uptoBulkAll elems + uptoBulkAll spare + 1
  | .agg parts => uptoBulkAll parts + 1
  | .iface _ d => uptoBulk d + 1
  | .map entries => uptoBulkEntries entries + 1
  | .held _ => 1
def uptoBulkAll {H : Type} : List (DataW H) → Nat
  | [] => 0
  | d :: r => uptoBulk d + uptoBulkAll r
def uptoBulkEntries {H : Type} : List (Lit × DataW H) → Nat
  | [] => 0
  | x :: r => uptoBulkEntry x + uptoBulkEntries r
def uptoBulkEntry {H : Type} : Lit × DataW H → Nat
  | (.string bytes, d) => bytes.length + uptoBulk d + 1
  | (_, d) => uptoBulk d + 1
 end
def uptoSmall : (H : Type) → List (DataW H) → Bool := fun _ ds => decide (uptoBulkAll ds ≤ 1048576)
def OpenSpec.upto (s : _root_.Go.ChangeSpec) : _root_.Go.OpenSpec := { _root_.Go.OpenSpec.ofChange s with cond := some uptoSmall }

/-- 'parleylaw11.PlainAgain', WHERE WHAT IT READS IS OF BULK AT MOST 1048576: true; the input reads as it did. -/
def plainAgainUptoRow : OpenClaim := { program := "ytbedgeimpobhdaa", sum := "26bc6f5d40de03f8e9e300e60ebb57a82bb56e2be90b5f3962d7df229d19dd6f", func := "parley/parleylaw11.PlainAgain", spec := "plainAgain", apart := false, narrowed := true }
def PlainAgainUptoSaid : Prop := plainAgainUptoRow.holds Try.pinned (OpenSpec.upto plainAgainSpec)

/-- 'parleylaw11.PlainFull', WHERE WHAT IT READS IS OF BULK AT MOST 1048576: true; the input reads as it did. -/
def plainFullUptoRow : OpenClaim := { program := "ytbedgeimpobhdaa", sum := "26bc6f5d40de03f8e9e300e60ebb57a82bb56e2be90b5f3962d7df229d19dd6f", func := "parley/parleylaw11.PlainFull", spec := "plainFull", unfollowed := true, recurses := true, apart := false, narrowed := true }
def PlainFullUptoSaid : Prop := plainFullUptoRow.holds Try.pinned (OpenSpec.upto plainFullSpec)

/-- 'parleylaw11.PlainFirst', WHERE WHAT IT READS IS OF BULK AT MOST 1048576: true; the input reads as it did. -/
def plainFirstUptoRow : OpenClaim := { program := "ytbedgeimpobhdaa", sum := "26bc6f5d40de03f8e9e300e60ebb57a82bb56e2be90b5f3962d7df229d19dd6f", func := "parley/parleylaw11.PlainFirst", spec := "plainFirst", unfollowed := true, recurses := true, apart := false, narrowed := true }
def PlainFirstUptoSaid : Prop := plainFirstUptoRow.holds Try.pinned (OpenSpec.upto plainFirstSpec)

/-- 'parleylaw11.PlainPlays', WHERE WHAT IT READS IS OF BULK AT MOST 1048576: true; the input reads as it did. -/
def plainPlaysUptoRow : OpenClaim := { program := "ytbedgeimpobhdaa", sum := "26bc6f5d40de03f8e9e300e60ebb57a82bb56e2be90b5f3962d7df229d19dd6f", func := "parley/parleylaw11.PlainPlays", spec := "plainPlays", unfollowed := true, recurses := true, apart := false, narrowed := true }
def PlainPlaysUptoSaid : Prop := plainPlaysUptoRow.holds Try.pinned (OpenSpec.upto plainPlaysSpec)

/-- 'parleylaw11.PlainNil', WHERE WHAT IT READS IS OF BULK AT MOST 1048576: true; the input reads as it did. -/
def plainNilUptoRow : OpenClaim := { program := "ytbedgeimpobhdaa", sum := "26bc6f5d40de03f8e9e300e60ebb57a82bb56e2be90b5f3962d7df229d19dd6f", func := "parley/parleylaw11.PlainNil", spec := "plainNil", unfollowed := true, recurses := true, apart := false, narrowed := true }
def PlainNilUptoSaid : Prop := plainNilUptoRow.holds Try.pinned (OpenSpec.upto plainNilSpec)

end Rows
end Go.Proofs.Ytbedgeimpobhdaa
