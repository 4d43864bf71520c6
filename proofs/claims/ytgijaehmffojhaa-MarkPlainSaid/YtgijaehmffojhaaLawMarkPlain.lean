/- MarkPlain: whatever the input, the law returns true and its arguments read as they did; no condition.
  The frame of this text was written by the guide's proof-skeleton; the walk is ours. -/
import Derived.Test.YtgijaehmffojhaaRows
import Derived.Test.YtgijaehmffojhaaPlainLaw
import Derived.Test.YtgijaehmffojhaaArgs
import Derived.WalkKit
import Derived.ProofKit
import Derived.OpenShut
import Derived.ShutString
import Derived.ChangeOld
import Derived.Below
namespace Go.Proofs.Ytgijaehmffojhaa.markPlain
open Go.ChangeShapes Go.WideShapes Go.ChangeAt Go.RowKit
open Go.ChangeMaps (open_string shut_string)
set_option linter.unusedVariables false

theorem own : ownKnob Try.prog.godebug = none := by kernel_rfl
theorem laidOut : laidOutB Try.prog = true := by kernel_rfl

theorem walk (a0 : Option Addr) (n0 c0 : Nat) (l0 : List Int) (a1 : Option Addr) (n1 c1 : Nat) (l1 : List Int) (w : World) (h0 : Rd w 1 (.slice a0 n0 c0) n0 (u64s l0)) (h1 : Rd w 1 (.slice a1 n1 c1) n1 (u64s l1)) (hn1 : n1 ≤ 140737488355328) :
    Calls Try.prog 8 #[.slice a0 n0 c0, .slice a1 n1 c1] w fun e w' => e = .returned (.bool true) ∧ Below w.heap.size w w' :=
  plain_walk a0 n0 c0 l0 a1 n1 c1 l1 w h0 h1 hn1

/-! ### THE ROW's STEP: WRITTEN OUT: LEAVE IT -/
set_option maxRecDepth 100000 in
theorem lifted (os : Os) (started : os.Started) (H : Type) (enc : TypeId × Value → H) :
    ReturnsInHanded {} Try.checked os 8 .any (Rows.markPlainSpec.pre6 enc Try.prog Try.f8 Rows.markPlainRow.domain false) (Rows.markPlainSpec.post enc Try.prog Try.f8 false true false false) := by
  refine returnsInHanded_of_change_sized (C := Try.checked) own started (by kernel_rfl) Try.func8
    (ChangeSpec.witness6 (enc := enc) (C := Try.checked) false ⟨#[], #[.slice none 0 0, .slice none 0 0], []⟩ 8 (by kernel_rfl) (by kernel_rfl) (by kernel_rfl) (by kernel_rfl)) ?_
  intro W base args ds gs before hval0 hW hcnd hsz _
  have hval : ∀ (j : Nat) t v, Try.f8.params[j]? = some t → args[j]? = some v → Value.okWide Try.prog W .any base t v := hval0
  have hW' := hW
  obtain ⟨p, q, hA0, hV, rfl, hfz, hnd⟩ := hW
  have hA : DataW.TrodAll enc Try.prog W 0 (fun _ => true) true Try.f8.params.toList args.toList ds p := hA0
  rw [Try.params8] at hA hval
  obtain ⟨v0, vs0, d0, ds0, p0, q0, hargs, rfl, rfl, h0, r0⟩ := trodAll_cons hA
  obtain ⟨v1, vs1, d1, ds1, p1, q1, rfl, rfl, rfl, h1, r1⟩ := trodAll_cons r0
  obtain ⟨rfl, rfl, rfl⟩ := trodAll_nil r1
  obtain rfl : args = #[v0, v1] := by cases args; simp_all
  obtain ⟨rfl, rfl⟩ := trodVars_none hV
  have k0 := h0
  have lt0 : ∀ x ∈ p0, x.block < W.heap.size := by obtain ⟨m, hm⟩ := k0; exact DataW.trod_lt m _ _ _ hm
  have k1 := h1
  have lt1 : ∀ x ∈ p1, x.block < W.heap.size := by obtain ⟨m, hm⟩ := k1; exact DataW.trod_lt m _ _ _ hm
  obtain ⟨fuel0, hf0⟩ := h0
  obtain ⟨fuel1, hf1⟩ := h1
  obtain ⟨a0, n0, c0, l0, hcs0, hS0, hreach0, _⟩ := rd_ints Try.underlying22 Try.underlying26 (by kernel_rfl) hf0 (Fits.of hsz (j := 0) rfl rfl)
  obtain ⟨a1, n1, c1, l1, hcs1, hS1, hreach1, _⟩ := rd_ints Try.underlying22 Try.underlying26 (by kernel_rfl) hf1 (Fits.of hsz (j := 1) rfl rfl)
  obtain rfl : v0 = .slice a0 n0 c0 := by
    have := okWide_slice Try.underlying22 (hval 0 22 v0 rfl rfl)
    obtain ⟨a', l', c', rfl⟩ := this
    simpa [Value.cells] using hcs0
  obtain rfl : v1 = .slice a1 n1 c1 := by
    have := okWide_slice Try.underlying22 (hval 1 22 v1 rfl rfl)
    obtain ⟨a', l', c', rfl⟩ := this
    simpa [Value.cells] using hcs1
  clear hA0 hval0
  rw [show Try.prog.bytesOf 26 = 8 by kernel_rfl] at hreach1
  have hn : n1 ≤ 140737488355328 := by
    unfold reachBytes at hreach1
    obtain ⟨_, _, hv, hc, _⟩ := hS1.shape
    simp at hv
    omega
  refine (walk a0 n0 c0 l0 a1 n1 c1 l1 W hS0 hS1 hn).mono fun e W' ⟨he, bel⟩ => ?_
  subst he
  exact ⟨_, rfl, _, _, _, [], _, [], hW', trodAll_mk1 (shut_bool Try.underlying4 _), (trodAll_cons_mk (Below.trod laidOut (by kernel_rfl) (of_decide_eq_true (by kernel_rfl)) k0 bel lt0) (trodAll_cons_mk (Below.trod laidOut (by kernel_rfl) (of_decide_eq_true (by kernel_rfl)) k1 bel lt1) trodAll_mk0)), rfl, bel.frame _, fun h => by cases h⟩

theorem over : Rows.markPlainRow.holds Try.pinned (OpenSpec.ofChange Rows.markPlainSpec) :=
  OpenClaim.holds_of_wide 8 Try.f8 rfl rfl rfl rfl rfl rfl rfl ⟨rfl, rfl, rfl, rfl, rfl⟩ rfl rfl rfl rfl rfl (by kernel_rfl) Try.func8 (by kernel_rfl)
    (of_decide_eq_true (by kernel_rfl)) (by unfold Func.isWrapper; first | (rw [if_pos (by decide +kernel)]; kernel_rfl) | (rw [if_neg (by decide +kernel)]; exact ⟨rfl, rfl⟩))
    (fun os started H enc _ => lifted os started H enc)

/-- ████ THE STATEMENT ████ -/
theorem proved : Rows.MarkPlainSaid := over
#print axioms proved
end Go.Proofs.Ytgijaehmffojhaa.markPlain
