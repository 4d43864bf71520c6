/-
  No cell of these rows narrows 'for every input' (looked for: loops, veiled, ifaces, maps, wideKeys, modest, calm, conditions, laid).
  DERIVED. THE GIVEN ROWS OF THIS SEAT. 6 by the template 'for every input the law returns true; each argument reads behind the call as it read before'; 0 by the template 'total and deterministic' (their statements: YtgijaehmffojhaaTotals.lean).
  GIVEN WITH THE SEED: the statements are not yours to turn. If you find one false, say at which input.
  Laid BY PROGRAM, IN A SANDBOX (cutbox-rows.mjs): the forced cells as the released guide's own fill.sh prints them over the translation 097cb9f129db22a2… (all of the seat's roots in one cut). By AI agents, Wed Nov 11 2026. No macro, syntax, notation, axiom, sorry.
-/
import Derived.Test.YtgijaehmffojhaaChecked
import GoSem.Claim
import GoSem.ClaimJoined
import GoSem.ClaimMapViews
import Derived.JoinedTies
import Derived.KernelRfl
namespace Go.Proofs.Ytgijaehmffojhaa
/- THE CELL 'sum', in the pinned program and in every row, IS THE sha256 OF THE DUMP (.gsa) THAT YtgijaehmffojhaaProg.lean LOADS. Nothing in Lean hashes anything: it is a label: what it is worth is what the hold of that sum in a sandbox is worth. -/
noncomputable def Try.pinned : Pinned := { name := "ytgijaehmffojhaa", sum := "097cb9f129db22a2427dca66bcdb409e8a4ed63449b6b9685b1a55330e785512", checked := Try.checked }
namespace Rows
def none {H : Type} : Left H := { results := [], args := [] }

/-- 'parleylaw12.MarkTakes': WHATEVER THE INPUT: true; the input reads as it did. -/
def markTakesSpec : ChangeSpec := { name := "markTakes", fn := fun _ => fun
  | [d1, d2] => { results := [.lit (.bool true)], args := [d1, d2] }
  | _ => none }
def markTakesRow : OpenClaim := { program := "ytgijaehmffojhaa", sum := "097cb9f129db22a2427dca66bcdb409e8a4ed63449b6b9685b1a55330e785512", func := "parley/parleylaw12.MarkTakes", spec := "markTakes", unfollowed := true, recurses := true, apart := false }
def MarkTakesSaid : Prop := markTakesRow.holds Try.pinned (OpenSpec.ofChange markTakesSpec)

/-- ITS FALSE NEIGHBOUR: 'it returns false'. Refute it at one input. -/
def markTakesWrong : ChangeSpec := { name := "markTakes", fn := fun _ => fun
  | [d1, d2] => { results := [.lit (.bool false)], args := [d1, d2] }
  | _ => none }
def MarkTakesWrongFalsely : Prop := markTakesRow.holds Try.pinned (OpenSpec.ofChange markTakesWrong)

/-- 'parleylaw12.MarkMany': WHATEVER THE INPUT: true; the input reads as it did. -/
def markManySpec : ChangeSpec := { name := "markMany", fn := fun _ => fun
  | [d1, d2, d3] => { results := [.lit (.bool true)], args := [d1, d2, d3] }
  | _ => none }
def markManyRow : OpenClaim := { program := "ytgijaehmffojhaa", sum := "097cb9f129db22a2427dca66bcdb409e8a4ed63449b6b9685b1a55330e785512", func := "parley/parleylaw12.MarkMany", spec := "markMany", apart := false }
def MarkManySaid : Prop := markManyRow.holds Try.pinned (OpenSpec.ofChange markManySpec)

/-- ITS FALSE NEIGHBOUR: 'it returns false'. Refute it at one input. -/
def markManyWrong : ChangeSpec := { name := "markMany", fn := fun _ => fun
  | [d1, d2, d3] => { results := [.lit (.bool false)], args := [d1, d2, d3] }
  | _ => none }
def MarkManyWrongFalsely : Prop := markManyRow.holds Try.pinned (OpenSpec.ofChange markManyWrong)

/-- 'parleylaw12.MarkOld': WHATEVER THE INPUT: true; the input reads as it did. -/
def markOldSpec : ChangeSpec := { name := "markOld", fn := fun _ => fun
  | [d1, d2, d3] => { results := [.lit (.bool true)], args := [d1, d2, d3] }
  | _ => none }
def markOldRow : OpenClaim := { program := "ytgijaehmffojhaa", sum := "097cb9f129db22a2427dca66bcdb409e8a4ed63449b6b9685b1a55330e785512", func := "parley/parleylaw12.MarkOld", spec := "markOld", apart := false }
def MarkOldSaid : Prop := markOldRow.holds Try.pinned (OpenSpec.ofChange markOldSpec)

/-- ITS FALSE NEIGHBOUR: 'it returns false'. Refute it at one input. -/
def markOldWrong : ChangeSpec := { name := "markOld", fn := fun _ => fun
  | [d1, d2, d3] => { results := [.lit (.bool false)], args := [d1, d2, d3] }
  | _ => none }
def MarkOldWrongFalsely : Prop := markOldRow.holds Try.pinned (OpenSpec.ofChange markOldWrong)

/-- 'parleylaw12.MarkPlays': WHATEVER THE INPUT: true; the input reads as it did. -/
def markPlaysSpec : ChangeSpec := { name := "markPlays", fn := fun _ => fun
  | [d1, d2] => { results := [.lit (.bool true)], args := [d1, d2] }
  | _ => none }
def markPlaysRow : OpenClaim := { program := "ytgijaehmffojhaa", sum := "097cb9f129db22a2427dca66bcdb409e8a4ed63449b6b9685b1a55330e785512", func := "parley/parleylaw12.MarkPlays", spec := "markPlays", unfollowed := true, recurses := true, apart := false }
def MarkPlaysSaid : Prop := markPlaysRow.holds Try.pinned (OpenSpec.ofChange markPlaysSpec)

/-- ITS FALSE NEIGHBOUR: 'it returns false'. Refute it at one input. -/
def markPlaysWrong : ChangeSpec := { name := "markPlays", fn := fun _ => fun
  | [d1, d2] => { results := [.lit (.bool false)], args := [d1, d2] }
  | _ => none }
def MarkPlaysWrongFalsely : Prop := markPlaysRow.holds Try.pinned (OpenSpec.ofChange markPlaysWrong)

/-- 'parleylaw12.MarkNil': WHATEVER THE INPUT: true; the input reads as it did. -/
def markNilSpec : ChangeSpec := { name := "markNil", fn := fun _ => fun
  | [d1, d2, d3] => { results := [.lit (.bool true)], args := [d1, d2, d3] }
  | _ => none }
def markNilRow : OpenClaim := { program := "ytgijaehmffojhaa", sum := "097cb9f129db22a2427dca66bcdb409e8a4ed63449b6b9685b1a55330e785512", func := "parley/parleylaw12.MarkNil", spec := "markNil", unfollowed := true, recurses := true, apart := false }
def MarkNilSaid : Prop := markNilRow.holds Try.pinned (OpenSpec.ofChange markNilSpec)

/-- ITS FALSE NEIGHBOUR: 'it returns false'. Refute it at one input. -/
def markNilWrong : ChangeSpec := { name := "markNil", fn := fun _ => fun
  | [d1, d2, d3] => { results := [.lit (.bool false)], args := [d1, d2, d3] }
  | _ => none }
def MarkNilWrongFalsely : Prop := markNilRow.holds Try.pinned (OpenSpec.ofChange markNilWrong)

/-- 'parleylaw12.MarkPlain': WHATEVER THE INPUT: true; the input reads as it did. -/
def markPlainSpec : ChangeSpec := { name := "markPlain", fn := fun _ => fun
  | [d1, d2] => { results := [.lit (.bool true)], args := [d1, d2] }
  | _ => none }
def markPlainRow : OpenClaim := { program := "ytgijaehmffojhaa", sum := "097cb9f129db22a2427dca66bcdb409e8a4ed63449b6b9685b1a55330e785512", func := "parley/parleylaw12.MarkPlain", spec := "markPlain", unfollowed := true, recurses := true, apart := false }
def MarkPlainSaid : Prop := markPlainRow.holds Try.pinned (OpenSpec.ofChange markPlainSpec)

/-- ITS FALSE NEIGHBOUR: 'it returns false'. Refute it at one input. -/
def markPlainWrong : ChangeSpec := { name := "markPlain", fn := fun _ => fun
  | [d1, d2] => { results := [.lit (.bool false)], args := [d1, d2] }
  | _ => none }
def MarkPlainWrongFalsely : Prop := markPlainRow.holds Try.pinned (OpenSpec.ofChange markPlainWrong)

/- THE SECOND FORM. 'bulk': how many values and letters a reading holds, each counted each time it is reached (what is shared counts as often as it is met; a slice's spare places count too). A statement '..UptoSaid' is the law's where the arguments, and the package variables that the reading takes, are together of bulk at most 1048576: NARROWER than '..Said'. Prove '..Said' where nothing that the law and all that it calls make is longer than what came in: it says more and counts as full. Else prove '..UptoSaid'. A law counts once. -/
mutual
def uptoBulk {H : Type} : DataW H → Nat
  | .lit (.string bytes) => bytes.length + 1
  | .lit _ => 1
  | .nil => 1
  | .ptr d => uptoBulk d + 1
  | .slice elems spare => uptoBulkAll elems + uptoBulkAll spare + 1
  | .agg parts => uptoBulkAll parts + 1
  | .iface _ d => uptoBulk d + 1
  | .map entries => uptoBulkEntries entries + 1
  | .held _ => 1
def uptoBulkAll {H : Type} : List (DataW H) → Nat
  | [] => 0
  | d :: r => uptoBulk d + uptoBulkAll r
def uptoBulkEntries {H : Type} : List (Lit × DataW H) → Nat
  | [] => 0
  | x :: r => uptoBulkEntry x + uptoBulkEntries r
def uptoBulkEntry {H : Type} : Lit × DataW H → Nat
  | (.string bytes, d) => bytes.length + uptoBulk d + 1
  | (_, d) => uptoBulk d + 1
 end
def uptoSmall : (H : Type) → List (DataW H) → Bool := fun _ ds => decide (uptoBulkAll ds ≤ 1048576)
def OpenSpec.upto (s : _root_.Go.ChangeSpec) : _root_.Go.OpenSpec := { _root_.Go.OpenSpec.ofChange s with cond := some uptoSmall }

/-- 'parleylaw12.MarkTakes', WHERE WHAT IT READS IS OF BULK AT MOST 1048576: true; the input reads as it did. -/
def markTakesUptoRow : OpenClaim := { program := "ytgijaehmffojhaa", sum := "097cb9f129db22a2427dca66bcdb409e8a4ed63449b6b9685b1a55330e785512", func := "parley/parleylaw12.MarkTakes", spec := "markTakes", unfollowed := true, recurses := true, apart := false, narrowed := true }
def MarkTakesUptoSaid : Prop := markTakesUptoRow.holds Try.pinned (OpenSpec.upto markTakesSpec)

/-- 'parleylaw12.MarkMany', WHERE WHAT IT READS IS OF BULK AT MOST 1048576: true; the input reads as it did. -/
def markManyUptoRow : OpenClaim := { program := "ytgijaehmffojhaa", sum := "097cb9f129db22a2427dca66bcdb409e8a4ed63449b6b9685b1a55330e785512", func := "parley/parleylaw12.MarkMany", spec := "markMany", apart := false, narrowed := true }
def MarkManyUptoSaid : Prop := markManyUptoRow.holds Try.pinned (OpenSpec.upto markManySpec)

/-- 'parleylaw12.MarkOld', WHERE WHAT IT READS IS OF BULK AT MOST 1048576: true; the input reads as it did. -/
def markOldUptoRow : OpenClaim := { program := "ytgijaehmffojhaa", sum := "097cb9f129db22a2427dca66bcdb409e8a4ed63449b6b9685b1a55330e785512", func := "parley/parleylaw12.MarkOld", spec := "markOld", apart := false, narrowed := true }
def MarkOldUptoSaid : Prop := markOldUptoRow.holds Try.pinned (OpenSpec.upto markOldSpec)

/-- 'parleylaw12.MarkPlays', WHERE WHAT IT READS IS OF BULK AT MOST 1048576: true; the input reads as it did. -/
def markPlaysUptoRow : OpenClaim := { program := "ytgijaehmffojhaa", sum := "097cb9f129db22a2427dca66bcdb409e8a4ed63449b6b9685b1a55330e785512", func := "parley/parleylaw12.MarkPlays", spec := "markPlays", unfollowed := true, recurses := true, apart := false, narrowed := true }
def MarkPlaysUptoSaid : Prop := markPlaysUptoRow.holds Try.pinned (OpenSpec.upto markPlaysSpec)

/-- 'parleylaw12.MarkNil', WHERE WHAT IT READS IS OF BULK AT MOST 1048576: true; the input reads as it did. -/
def markNilUptoRow : OpenClaim := { program := "ytgijaehmffojhaa", sum := "097cb9f129db22a2427dca66bcdb409e8a4ed63449b6b9685b1a55330e785512", func := "parley/parleylaw12.MarkNil", spec := "markNil", unfollowed := true, recurses := true, apart := false, narrowed := true }
def MarkNilUptoSaid : Prop := markNilUptoRow.holds Try.pinned (OpenSpec.upto markNilSpec)

/-- 'parleylaw12.MarkPlain', WHERE WHAT IT READS IS OF BULK AT MOST 1048576: true; the input reads as it did. -/
def markPlainUptoRow : OpenClaim := { program := "ytgijaehmffojhaa", sum := "097cb9f129db22a2427dca66bcdb409e8a4ed63449b6b9685b1a55330e785512", func := "parley/parleylaw12.MarkPlain", spec := "markPlain", unfollowed := true, recurses := true, apart := false, narrowed := true }
def MarkPlainUptoSaid : Prop := markPlainUptoRow.holds Try.pinned (OpenSpec.upto markPlainSpec)

end Rows
end Go.Proofs.Ytgijaehmffojhaa
