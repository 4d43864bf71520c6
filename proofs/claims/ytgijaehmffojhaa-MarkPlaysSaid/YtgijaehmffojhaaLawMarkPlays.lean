/- MarkPlays: whatever the input, the law returns true and its arguments read as they did; no condition.
  The frame of this text was written by the guide's proof-skeleton; the walk is ours. -/
import Derived.Test.YtgijaehmffojhaaRows
import Derived.Test.YtgijaehmffojhaaPlays
import Derived.WalkKit
import Derived.ProofKit
import Derived.OpenShut
import Derived.ShutString
import Derived.ChangeOld
import Derived.Below
namespace Go.Proofs.Ytgijaehmffojhaa.markPlays
open Go.ChangeShapes Go.WideShapes Go.ChangeAt Go.RowKit
open Go.ChangeMaps (open_string shut_string)
set_option linter.unusedVariables false

theorem own : ownKnob Try.prog.godebug = none := by kernel_rfl
theorem laidOut : laidOutB Try.prog = true := by kernel_rfl

/-- A call of the script, read: its cells. -/
theorem opCells {H : Type} {enc : TypeId × Value → H} {W : World} {m : Nat} {d : DataW H} {xs : List Value} {ps : List MemPlace}
    (h : DataW.trod enc Try.prog W 0 (fun _ => true) true m 50 xs = some (d, ps)) (hfit : Fits Try.prog 50 d) : OpCells W xs := by
  obtain ⟨ys, k, rfl, hx, hl, hyl, hf⟩ := DataW.trod_struct Try.underlying50 h
  rw [show Try.prog.cellsOf 50 = 4 by kernel_rfl] at hl
  simp only [Prod.mk.injEq] at hx
  obtain ⟨rfl, rfl⟩ := hx
  match xs, hl with
  | [x0, x1, x2, x3], _ =>
    have hy4 : ys.length = 4 := hyl
    match ys, hy4 with
    | [y0, y1, y2, y3], _ =>
      have f0 : DataW.trod enc Try.prog W 0 (fun _ => true) true k 3 (([x0, x1, x2, x3].drop 0).take (Try.prog.cellsOf 3)) = some y0 := hf 0 _ rfl
      have f1 : DataW.trod enc Try.prog W 0 (fun _ => true) true k 26 (([x0, x1, x2, x3].drop 1).take (Try.prog.cellsOf 26)) = some y1 := hf 1 _ rfl
      have f2 : DataW.trod enc Try.prog W 0 (fun _ => true) true k 2 (([x0, x1, x2, x3].drop 2).take (Try.prog.cellsOf 2)) = some y2 := hf 2 _ rfl
      have f3 : DataW.trod enc Try.prog W 0 (fun _ => true) true k 22 (([x0, x1, x2, x3].drop 3).take (Try.prog.cellsOf 22)) = some y3 := hf 3 _ rfl
      have e3 : Try.prog.cellsOf 3 = 1 := by kernel_rfl
      have e26 : Try.prog.cellsOf 26 = 1 := by kernel_rfl
      have e2 : Try.prog.cellsOf 2 = 1 := by kernel_rfl
      have e22 : Try.prog.cellsOf 22 = 1 := by kernel_rfl
      simp only [e3, e26, e2, e22, List.drop_succ_cons, List.drop_zero, List.take_succ_cons, List.take_zero] at f0 f1 f2 f3
      obtain ⟨k0, h0, _, _⟩ := DataW.trod_int Try.underlying3 f0
      obtain ⟨k1, h1, _, _⟩ := DataW.trod_int Try.underlying26 f1
      obtain ⟨k2, h2, _, _⟩ := DataW.trod_int Try.underlying2 f2
      have hfit3 := hfit.agg Try.underlying50 (j := 3) rfl rfl
      obtain ⟨ao, nl, cap, L, h3, hrd, hreach, _⟩ := rd_ints Try.underlying22 Try.underlying26 e26 f3 hfit3
      rw [show Try.prog.bytesOf 26 = 8 by kernel_rfl] at hreach
      simp only [List.cons.injEq, and_true] at h0 h1 h2 h3
      subst h0 h1 h2 h3
      exact ⟨k0, k1, k2, ao, nl, cap, L, rfl, hrd, hreach⟩

theorem walk (a0 : Int) (ao : Option Addr) (n cap : Nat) (xss : List (List Value)) (w : World) (hS : Rd w 4 (.slice ao n cap) n xss.flatten) (hl4 : ∀ xs ∈ xss, xs.length = 4) (hlen : xss.length = n) (hops : ∀ xs ∈ xss, OpCells w xs) (hn : n ≤ 140737488355328) :
    Calls Try.prog 6 #[.int .i64 a0, .slice ao n cap] w fun e w' => e = .returned (.bool true) ∧ Below w.heap.size w w' := by
  by_cases h : 1 ≤ a0 ∧ a0 ≤ 32
  · exact plays_walk a0 ao n cap xss w hS hl4 hlen hops hn h.1 h.2
  · exact plays_nil a0 ao n cap w (by omega)

/-! ### THE ROW's STEP: WRITTEN OUT: LEAVE IT -/
set_option maxRecDepth 100000 in
theorem lifted (os : Os) (started : os.Started) (H : Type) (enc : TypeId × Value → H) :
    ReturnsInHanded {} Try.checked os 6 .any (Rows.markPlaysSpec.pre6 enc Try.prog Try.f6 Rows.markPlaysRow.domain false) (Rows.markPlaysSpec.post enc Try.prog Try.f6 false true false false) := by
  refine returnsInHanded_of_change_sized (C := Try.checked) own started (by kernel_rfl) Try.func6
    (ChangeSpec.witness6 (enc := enc) (C := Try.checked) false ⟨#[], #[.int .i64 0, .slice none 0 0], []⟩ 8 (by kernel_rfl) (by kernel_rfl) (by kernel_rfl) (by kernel_rfl)) ?_
  intro W base args ds gs before hval0 hW hcnd hsz _
  have hval : ∀ (j : Nat) t v, Try.f6.params[j]? = some t → args[j]? = some v → Value.okWide Try.prog W .any base t v := hval0
  have hW' := hW
  obtain ⟨p, q, hA0, hV, rfl, hfz, hnd⟩ := hW
  have hA : DataW.TrodAll enc Try.prog W 0 (fun _ => true) true Try.f6.params.toList args.toList ds p := hA0
  rw [Try.params6] at hA hval
  obtain ⟨v0, vs0, d0, ds0, p0, q0, hargs, rfl, rfl, h0, r0⟩ := trodAll_cons hA
  obtain ⟨v1, vs1, d1, ds1, p1, q1, rfl, rfl, rfl, h1, r1⟩ := trodAll_cons r0
  obtain ⟨rfl, rfl, rfl⟩ := trodAll_nil r1
  obtain rfl : args = #[v0, v1] := by cases args; simp_all
  obtain ⟨rfl, rfl⟩ := trodVars_none hV
  obtain ⟨a0, rfl, rfl, rfl, w0⟩ := open_int Try.underlying3 (hval 0 3 v0 rfl rfl) h0
  have k1 := h1
  have lt1 : ∀ x ∈ p1, x.block < W.heap.size := by obtain ⟨m, hm⟩ := k1; exact DataW.trod_lt m _ _ _ hm
  obtain ⟨fuel, hf⟩ := h1
  obtain ⟨ao, n, cap, xss, hcs, hS, hlen, hl4, hreach, hels⟩ := rd_slice (size := 4) Try.underlying48 (by kernel_rfl) (by decide) hf (Fits.of hsz (j := 1) rfl rfl)
  obtain rfl : v1 = .slice ao n cap := by
    have := okWide_slice Try.underlying48 (hval 1 48 v1 rfl rfl)
    obtain ⟨a', l', c', rfl⟩ := this
    simpa [Value.cells] using hcs
  clear hA0 hval0
  rw [show Try.prog.bytesOf 50 = 48 by kernel_rfl] at hreach
  have hn : n ≤ 140737488355328 := by
    unfold reachBytes at hreach
    obtain ⟨_, _, hv, hc, _⟩ := hS.shape
    simp at hv
    omega
  refine (walk a0 ao n cap xss W hS hl4 hlen (fun xs hx => by obtain ⟨m, d', ps', h1, h2⟩ := hels xs hx; exact opCells h1 h2) hn).mono fun e W' ⟨he, bel⟩ => ?_
  subst he
  exact ⟨_, rfl, _, _, _, [], _, [], hW', trodAll_mk1 (shut_bool Try.underlying4 _), (trodAll_cons_mk (shut_int Try.underlying3 w0) (trodAll_cons_mk (Below.trod laidOut (by kernel_rfl) (of_decide_eq_true (by kernel_rfl)) k1 bel lt1) trodAll_mk0)), rfl, bel.frame _, fun h => by cases h⟩

theorem over : Rows.markPlaysRow.holds Try.pinned (OpenSpec.ofChange Rows.markPlaysSpec) :=
  OpenClaim.holds_of_wide 6 Try.f6 rfl rfl rfl rfl rfl rfl rfl ⟨rfl, rfl, rfl, rfl, rfl⟩ rfl rfl rfl rfl rfl (by kernel_rfl) Try.func6 (by kernel_rfl)
    (of_decide_eq_true (by kernel_rfl)) (by unfold Func.isWrapper; first | (rw [if_pos (by decide +kernel)]; kernel_rfl) | (rw [if_neg (by decide +kernel)]; exact ⟨rfl, rfl⟩))
    (fun os started H enc _ => lifted os started H enc)

/-- ████ THE STATEMENT ████ -/
theorem proved : Rows.MarkPlaysSaid := over
#print axioms proved
end Go.Proofs.Ytgijaehmffojhaa.markPlays
