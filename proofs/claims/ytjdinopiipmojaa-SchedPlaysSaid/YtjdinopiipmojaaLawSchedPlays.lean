/- SchedPlays: whatever the input, the law returns true and its arguments read as they did; no condition.
  The frame of this text was written by the guide's proof-skeleton; the walk is ours. -/
import Derived.Test.YtjdinopiipmojaaRows
import Derived.Test.YtjdinopiipmojaaPlays
import Derived.WalkKit
import Derived.ProofKit
import Derived.OpenShut
import Derived.ShutString
import Derived.ChangeOld
import Derived.Below
namespace Go.Proofs.Ytjdinopiipmojaa.schedPlays
open Go.ChangeShapes Go.WideShapes Go.ChangeAt Go.RowKit
open Go.ChangeMaps (open_string shut_string)
set_option linter.unusedVariables false

theorem own : ownKnob Try.prog.godebug = none := by kernel_rfl
theorem laidOut : laidOutB Try.prog = true := by kernel_rfl

/-- A call of the script, read: its cells. -/
theorem opCells {H : Type} {enc : TypeId × Value → H} {W : World} {m : Nat} {d : DataW H} {xs : List Value} {ps : List MemPlace}
    (h : DataW.trod enc Try.prog W 0 (fun _ => true) true m 38 xs = some (d, ps)) : OpCells xs := by
  obtain ⟨ys, k, rfl, hx, hl, hyl, hf⟩ := DataW.trod_struct Try.underlying38 h
  rw [show Try.prog.cellsOf 38 = 3 by kernel_rfl] at hl
  simp only [Prod.mk.injEq] at hx
  obtain ⟨rfl, rfl⟩ := hx
  match xs, hl with
  | [x0, x1, x2], _ =>
    have hy4 : ys.length = 3 := hyl
    match ys, hy4 with
    | [y0, y1, y2], _ =>
      have f0 : DataW.trod enc Try.prog W 0 (fun _ => true) true k 3 (([x0, x1, x2].drop 0).take (Try.prog.cellsOf 3)) = some y0 := hf 0 _ rfl
      have f1 : DataW.trod enc Try.prog W 0 (fun _ => true) true k 2 (([x0, x1, x2].drop 1).take (Try.prog.cellsOf 2)) = some y1 := hf 1 _ rfl
      have f2 : DataW.trod enc Try.prog W 0 (fun _ => true) true k 3 (([x0, x1, x2].drop 2).take (Try.prog.cellsOf 3)) = some y2 := hf 2 _ rfl
      have e3 : Try.prog.cellsOf 3 = 1 := by kernel_rfl
      have e2 : Try.prog.cellsOf 2 = 1 := by kernel_rfl
      simp only [e3, e2, List.drop_succ_cons, List.drop_zero, List.take_succ_cons, List.take_zero] at f0 f1 f2
      obtain ⟨k0, h0, _, _⟩ := DataW.trod_int Try.underlying3 f0
      obtain ⟨k1, h1, _, _⟩ := DataW.trod_int Try.underlying2 f1
      obtain ⟨k2, h2, _, _⟩ := DataW.trod_int Try.underlying3 f2
      simp only [List.cons.injEq, and_true] at h0 h1 h2
      subst h0 h1 h2
      exact ⟨k0, k1, k2, rfl⟩

/-! ### THE ROW's STEP: WRITTEN OUT: LEAVE IT -/
set_option maxRecDepth 100000 in
theorem lifted (os : Os) (started : os.Started) (H : Type) (enc : TypeId × Value → H) :
    ReturnsInHanded {} Try.checked os 6 .any (Rows.schedPlaysSpec.pre6 enc Try.prog Try.f6 Rows.schedPlaysRow.domain false) (Rows.schedPlaysSpec.post enc Try.prog Try.f6 false true false false) := by
  refine returnsInHanded_of_change_sized (C := Try.checked) own started (by kernel_rfl) Try.func6
    (ChangeSpec.witness6 (enc := enc) (C := Try.checked) false ⟨#[], #[.slice none 0 0, .int .i64 0], []⟩ 8 (by kernel_rfl) (by kernel_rfl) (by kernel_rfl) (by kernel_rfl)) ?_
  intro W base args ds gs before hval0 hW hcnd hsz _
  have hval : ∀ (j : Nat) t v, Try.f6.params[j]? = some t → args[j]? = some v → Value.okWide Try.prog W .any base t v := hval0
  have hW' := hW
  obtain ⟨p, q, hA0, hV, rfl, hfz, hnd⟩ := hW
  have hA : DataW.TrodAll enc Try.prog W 0 (fun _ => true) true Try.f6.params.toList args.toList ds p := hA0
  rw [Try.params6] at hA hval
  obtain ⟨v0, vs0, d0, ds0, p0, q0, hargs, rfl, rfl, h0, r0⟩ := trodAll_cons hA
  obtain ⟨v1, vs1, d1, ds1, p1, q1, rfl, rfl, rfl, h1, r1⟩ := trodAll_cons r0
  obtain ⟨rfl, rfl, rfl⟩ := trodAll_nil r1
  obtain rfl : args = #[v0, v1] := by cases args; simp_all
  obtain ⟨rfl, rfl⟩ := trodVars_none hV
  obtain ⟨a1, rfl, rfl, rfl, w1⟩ := open_int Try.underlying3 (hval 1 3 v1 rfl rfl) h1
  have k0 := h0
  have lt0 : ∀ x ∈ p0, x.block < W.heap.size := by obtain ⟨m, hm⟩ := k0; exact DataW.trod_lt m _ _ _ hm
  obtain ⟨fuel, hf⟩ := h0
  obtain ⟨ao, n, cap, xss, hcs, hS, hlen, hl3, hreach, hels⟩ := rd_slice (size := 3) Try.underlying36 (by kernel_rfl) (by decide) hf (Fits.of hsz (j := 0) rfl rfl)
  obtain rfl : v0 = .slice ao n cap := by
    have := okWide_slice Try.underlying36 (hval 0 36 v0 rfl rfl)
    obtain ⟨a', l', c', rfl⟩ := this
    simpa [Value.cells] using hcs
  clear hA0 hval0
  rw [show Try.prog.bytesOf 38 = 24 by kernel_rfl] at hreach
  have hn : n ≤ 140737488355328 := by
    unfold reachBytes at hreach
    obtain ⟨_, _, hv, hc, _⟩ := hS.shape
    simp at hv
    omega
  refine (plays_walk ao n cap a1 xss W hS hl3 hlen (fun xs hx => by obtain ⟨m, d', ps', h1, _⟩ := hels xs hx; exact opCells h1) hn).mono fun e W' ⟨he, bel⟩ => ?_
  subst he
  exact ⟨_, rfl, _, _, _, [], _, [], hW', trodAll_mk1 (shut_bool Try.underlying4 _), (trodAll_cons_mk (Below.trod laidOut (by kernel_rfl) (of_decide_eq_true (by kernel_rfl)) k0 bel lt0) (trodAll_cons_mk (shut_int Try.underlying3 w1) trodAll_mk0)), rfl, bel.frame _, fun h => by cases h⟩

theorem over : Rows.schedPlaysRow.holds Try.pinned (OpenSpec.ofChange Rows.schedPlaysSpec) :=
  OpenClaim.holds_of_wide 6 Try.f6 rfl rfl rfl rfl rfl rfl rfl ⟨rfl, rfl, rfl, rfl, rfl⟩ rfl rfl rfl rfl rfl (by kernel_rfl) Try.func6 (by kernel_rfl)
    (of_decide_eq_true (by kernel_rfl)) (by unfold Func.isWrapper; first | (rw [if_pos (by decide +kernel)]; kernel_rfl) | (rw [if_neg (by decide +kernel)]; exact ⟨rfl, rfl⟩))
    (fun os started H enc _ => lifted os started H enc)

/-- ████ THE STATEMENT ████ -/
theorem proved : Rows.SchedPlaysSaid := over
#print axioms proved
end Go.Proofs.Ytjdinopiipmojaa.schedPlays
