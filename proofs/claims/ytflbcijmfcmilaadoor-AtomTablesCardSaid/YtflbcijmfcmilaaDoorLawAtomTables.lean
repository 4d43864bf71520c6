/- AtomTables: whatever the input, the law returns true and its arguments read as they did; no condition. (The card ties the library's listed tables to the program's text.)
  The frame of this text follows the guide's proof-skeleton and its worked card; the walk is ours. -/
import Derived.Test.YtflbcijmfcmilaaDoorTie
import Derived.Test.YtflbcijmfcmilaaDoorCards
import Derived.Test.YtflbcijmfcmilaaDoorTables
import Derived.Test.YtflbcijmfcmilaaDoorArgs
import Derived.Carry
import Derived.WalkKit
import Derived.ProofKit
import Derived.OpenShut
import Derived.ShutString
import Derived.ChangeOld
import Derived.Below
import Derived.LaidMore
import Derived.Lay
import Derived.SevenTiedAt
import Derived.Stop.Joined
import Derived.Test.YtflbcijmfcmilaaDoorTabs
namespace Go.Proofs.YtflbcijmfcmilaaDoor.atomTables
open Go.ChangeShapes Go.WideShapes Go.ChangeAt Go.RowKit
open Go.ChangeMaps (open_string shut_string)
set_option linter.unusedVariables false

theorem own : ownKnob Tryd.prog.godebug = none := by kernel_rfl

theorem laidOut : laidOutB Tryd.prog = true := by kernel_rfl

section
variable {H : Type} {enc : TypeId × Value → H} {P : Program} {w : World}
/-- A slice of strings. -/
theorem rd_strings {t e : TypeId} {fuel : Nat} {cs : List Value} {d : DataW H} {ps : List MemPlace} (ht : P.underlying t = some (.slice e)) (he : P.underlying e = some .string) (hc : P.cellsOf e = 1)
    (h : DataW.trod enc P w 0 (fun _ => true) true fuel t cs = some (d, ps)) (hfit : Fits P t d) :
    ∃ (ao : Option Addr) (cap : Nat) (zs : List ByteArray), cs = [.slice ao zs.length cap] ∧ Rd w 1 (.slice ao zs.length cap) zs.length (YtflbcijmfcmilaaDoor.strs zs) ∧ ∀ z ∈ zs, z.size ≤ maxLen := by
  obtain ⟨ao, n, cap, xss, hcs, hrd, hl, hl1, hreach, hel⟩ := rd_slice ht hc (by omega) h hfit
  obtain ⟨zs, hzl, hzs⟩ := list_choose (p := fun (xs : List Value) (z : ByteArray) => xs = [.string z] ∧ z.size ≤ maxLen) xss (by
    intro xs hx
    obtain ⟨m, d', ps', h1, _⟩ := hel xs hx
    obtain ⟨z, h2, _, h3⟩ := DataW.trod_string he h1
    exact ⟨z, h2, h3⟩)
  obtain rfl : n = zs.length := by omega
  refine ⟨ao, cap, zs, hcs, ?_, ?_⟩
  · have : xss.flatten = YtflbcijmfcmilaaDoor.strs zs := by
      apply List.ext_getElem?
      intro i
      by_cases hi : i < xss.length
      · obtain ⟨z, hz, h1, _⟩ := hzs i _ (List.getElem?_eq_getElem hi)
        have := flat_get xss hl1 i 0 _ (List.getElem?_eq_getElem hi) (by omega)
        rw [Nat.mul_one, Nat.add_zero, h1] at this
        simp [this, hz, YtflbcijmfcmilaaDoor.strs]
      · rw [List.getElem?_eq_none (by rw [flat_length xss hl1]; omega), List.getElem?_eq_none (by simp [YtflbcijmfcmilaaDoor.strs]; omega)]
    rw [← this]; exact hrd
  · intro z hz
    obtain ⟨i, hi, rfl⟩ := List.getElem_of_mem hz
    obtain ⟨y, hy, _, h2⟩ := hzs i _ (List.getElem?_eq_getElem (by omega))
    rw [List.getElem?_eq_getElem hi] at hy
    cases hy
    exact h2
end

set_option maxRecDepth 100000 in
theorem lifted (os : Os) (started : os.Started) (H : Type) (enc : TypeId × Value → H) :
    ReturnsInHanded {} Tryd.checked os 10 .any (fun w args => (Rows.atomTablesSpec.pre enc Tryd.prog Tryd.f10 Rows.atomTablesRow.domain false w args ∧ laidMetH Tryd.prog Rows.atomTablesRow.laid w) ∧ sizedMet enc Tryd.prog Tryd.f10 (OpenSpec.ofChange Rows.atomTablesSpec) false w args)
      (Rows.atomTablesSpec.post enc Tryd.prog Tryd.f10 false true false false) := by
  refine returnsInHanded_of_change_and (C := Tryd.checked) (X := fun w _ => laidMetH Tryd.prog Rows.atomTablesRow.laid w) (fun _ _ _ hh h => h.of_heap hh) own started (by kernel_rfl) Tryd.func10
    (ChangeSpec.witness_shaped (enc := enc) (C := Tryd.checked) (os := os) (X := fun w _ => laidMetH Tryd.prog Rows.atomTablesRow.laid w) false (World.laidAll Tryd.prog os Rows.atomTablesRow.laid) #[.slice none 0 0, .int .i64 0] 8 (World.laidAll_os _ _ _)
      (World.shaped_of_ZipB (by kernel_rfl) (by kernel_rfl)) (by kernel_rfl) (by kernel_rfl) (by kernel_rfl)
      (by rw [MakeChecks.laidMetH_plain _ _ _ (by kernel_rfl)]; exact laidMet_laidAll _ (by kernel_rfl) (by kernel_rfl))) ?_
  intro W base args ds gs before hval0 hW _ hZ hL _
  have hval : ∀ (j : Nat) t v, Tryd.f10.params[j]? = some t → args[j]? = some v → Value.okWide Tryd.prog W .any base t v := hval0
  have hW' := hW
  obtain ⟨p, q, hA0, hV, rfl, hfz, hnd⟩ := hW
  have hA : DataW.TrodAll enc Tryd.prog W 0 (fun _ => true) true Tryd.f10.params.toList args.toList ds p := hA0
  rw [Tryd.params10] at hA hval
  obtain ⟨v0, vs0, d0, ds0, p0, q0, hargs, rfl, rfl, h0, r0⟩ := trodAll_cons hA
  obtain ⟨v1, vs1, d1, ds1, p1, q1, rfl, rfl, rfl, h1, r1⟩ := trodAll_cons r0
  obtain ⟨rfl, rfl, rfl⟩ := trodAll_nil r1
  obtain rfl : args = #[v0, v1] := by cases args; simp_all
  obtain ⟨rfl, rfl⟩ := trodVars_none hV
  have k0 := h0
  have lt0 : ∀ x ∈ p0, x.block < W.heap.size := by obtain ⟨m, hm⟩ := k0; exact DataW.trod_lt m _ _ _ hm
  obtain ⟨fuel, hf⟩ := h0
  obtain ⟨ao, cap, l, hcs, hS, hl⟩ := rd_strings Tryd.underlying46 Tryd.underlying9 (by kernel_rfl) hf (Fits.of hZ (j := 0) rfl rfl)
  obtain rfl : v0 = .slice ao l.length cap := by
    have := okWide_slice Tryd.underlying46 (hval 0 46 v0 rfl rfl)
    obtain ⟨a', l', c', rfl⟩ := this
    simpa [Value.cells] using hcs
  obtain ⟨a1, rfl, rfl, rfl, w1⟩ := open_int Tryd.underlying3 (hval 1 3 v1 rfl rfl) h1
  clear hA0 hval0
  have hL' : laidMet Tryd.prog Rows.atomTablesRow.laid W := by rw [MakeChecks.laidMetH_plain _ _ _ (by kernel_rfl)] at hL; exact hL
  have hT := tabs_of hL' (.tail _ (.tail _ (.tail _ (.tail _ (.head _))))) (.tail _ (.tail _ (.tail _ (.head _))))
  refine (atomTables_walk _ l a1 W hS hl hT).mono fun e W' ⟨he, bel⟩ => ?_
  subst he
  exact ⟨_, rfl, _, _, _, [], _, [], hW', trodAll_mk1 (shut_bool Tryd.underlying4 _), (trodAll_cons_mk (Below.trod laidOut (by kernel_rfl) (of_decide_eq_true (by kernel_rfl)) k0 bel lt0) (trodAll_cons_mk (shut_int Tryd.underlying3 w1) trodAll_mk0)), rfl, bel.frame _, fun h => by cases h⟩

theorem over : Rows.atomTablesRow.holds Tryd.pinned (OpenSpec.ofChange Rows.atomTablesSpec) :=
  OpenClaim.holds_of_wide 10 Tryd.f10 rfl rfl rfl rfl rfl rfl rfl ⟨rfl, rfl, rfl, rfl, rfl⟩ rfl rfl rfl rfl rfl (by kernel_rfl) Tryd.func10 (by kernel_rfl)
    (of_decide_eq_true (by kernel_rfl)) (by unfold Func.isWrapper; first | (rw [if_pos (by decide +kernel)]; kernel_rfl) | (rw [if_neg (by decide +kernel)]; exact ⟨rfl, rfl⟩))
    (fun os started H enc _ => lifted os started H enc)

/-- ████ THE STATEMENT ████ -/
theorem proved : Rows.AtomTablesCardSaid :=
  Claim7.holds_tied_plain_at .later [] [.data, .data, .data, .data, .pinned] true (true, "f636adf706287ea8ac4af381578163e57d6c8b1351893eb96e512f8a159c8cff") false over (fun _ h => by cases h) (by kernel_rfl) (fun _ h => by cases h) atomTables_row_tie rfl ⟨rfl, rfl⟩ (by kernel_rfl) rfl
    (fun f fn hf hfn => by
      obtain rfl : f = 10 := Option.some.inj ((show Tryd.prog.funcNamed "parley/parleylaw02.AtomTables" = some 10 by kernel_rfl).symm.trans hf) |>.symm
      obtain rfl : fn = Tryd.f10 := (Option.some.inj (Tryd.func10.symm.trans hfn)).symm
      exact ⟨by kernel_rfl, fun j t ht => by
        rw [Tryd.params10] at ht
        have hm : t ∈ [46, 3] := by simpa using Array.mem_of_getElem? ht
        have hall : ([46, 3].all fun u => !Tryd.prog.wantsStandIn u) = true := by kernel_rfl
        exact (show Tryd.prog.wantsStandIn t = false by simpa using List.all_eq_true.1 hall t hm)⟩)
    (by kernel_rfl)
#print axioms proved
end Go.Proofs.YtflbcijmfcmilaaDoor.atomTables
